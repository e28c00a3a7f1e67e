/- The walk of StoreSums. -/
import Derived.Test.YtcgapfmdpchemaaSums
import Derived.Test.YtcgapfmdpchemaaAtomW
namespace Go.Proofs.Ytcgapfmdpchemaa
open Go.RowKit
theorem Good.next {A : AD} {l : List Pt} {k c : Nat} {many : Bool} (h : Good A l k many c) : Good A l (k + 1) many (c + 1) :=
  ⟨h.down, h.fuse, Nat.le_succ_of_le h.change, fun j hj hjk => h.at_ j hj (by omega), h.whole⟩
def newB : ByteArray := { data := #[110, 101, 119] }
set_option maxRecDepth 1000000 in
set_option maxHeartbeats 4000000 in
theorem storeSums_any (w : World) (v1 v2 : Value) (l : List Pt) (hs : List Ac) (hp : PutsAt w v1 l) (ha : ActsAt w v2 hs) : Calls Try.prog 4 #[v1, v2] w fun e w' => e = .returned (.bool true) ∧ Below w.heap.size w w' := by
  obtain ⟨A1, c1, rfl, -, -, -⟩ := id hp
  obtain ⟨A2, c2, rfl, -, -, -⟩ := id ha.1
  have HP := Lib.hid hp; have HA := Lib.hid ha; clear hp ha
  go_enter Try.func4, Try.ntmps4
  go_wp2_with fail
  have hrd := Rd_new w (acCells (acOf (.slice A1 l.length c1) l)) 25 _ 1 rfl
  have hacts : ActsAt (w.alloc (Obj.cells (acCells (acOf (.slice A1 l.length c1) l)).toArray 25)) (.slice (some ⟨w.heap.size, 0, none⟩) 1 1) [acOf (.slice A1 l.length c1) l] :=
    ⟨hrd, fun s hs => by
      rw [List.mem_singleton] at hs
      subst hs
      exact HP.out.below ((Below.refl _ w).alloc (Nat.le_refl _) _) (Nat.le_refl _)⟩
  refine (great_any _ _ _ 1 hacts).mono ?_
  rintro e w1 ⟨⟨b, rfl, hb⟩, b1⟩
  have B1 := Lib.hid (below_more ((Below.refl _ w).alloc (Nat.le_refl _) _) b1 (Nat.le_refl _))
  clear hrd hacts b1 hb
  cases b with
  | true =>
    go_wp2_with fail
    refine (shown_any w1).mono ?_
    rintro e w3 ⟨rfl, b3⟩
    have HB3 := Lib.hid (below_more B1.out b3 (Nat.le_refl _)); clear b3
    go_wp2
    go_ret
    exact ⟨rfl, HB3.out⟩
  | false =>
    by_cases h8 : 8 < l.length
    · have h8i : (8 : Int) < (l.length : Int) := by omega
      go_wp2_with fail
      refine (shown_any w1).mono ?_
      rintro e w3 ⟨rfl, b3⟩
      have HB3 := Lib.hid (below_more B1.out b3 (Nat.le_refl _)); clear b3
      go_wp2
      go_ret
      exact ⟨rfl, HB3.out⟩
    by_cases k8 : 20 < hs.length
    · have h8i : ¬ (8 : Int) < (l.length : Int) := by omega
      have k8i : (20 : Int) < (hs.length : Int) := by omega
      go_wp2_with fail
      refine (shown_any w1).mono ?_
      rintro e w3 ⟨rfl, b3⟩
      have HB3 := Lib.hid (below_more B1.out b3 (Nat.le_refl _)); clear b3
      go_wp2
      go_ret
      exact ⟨rfl, HB3.out⟩
    have h8i : ¬ (8 : Int) < (l.length : Int) := by omega
    have k8i : ¬ (20 : Int) < (hs.length : Int) := by omega
    have HL1 : Hid (l.length ≤ 8) := Lib.hid (by omega)
    have HL2 : Hid (hs.length ≤ 20) := Lib.hid (by omega)
    go_wp2_with fail
    refine (newDisk_fresh w1 700 (by omega) (by omega)).mono ?_
    rintro e w2 ⟨bd, rfl, ⟨bp, bm, hd2, hf2⟩, b2⟩
    have B2 := Lib.hid (below_more B1.out b2 (Nat.le_refl _))
    have HFN : Hid (w.heap.size ≤ bd ∧ w.heap.size ≤ bp ∧ w.heap.size ≤ bm) := Lib.hid (by have := B1.out.size; obtain ⟨x, y, z⟩ := hf2; omega)
    have HD2 : Hid (AtD w2 bd bp bm (newA 700)) := Lib.hid ⟨_, hd2, rep_new 700 (by omega) (by omega)⟩; clear hd2 hf2 b2 B1 h8 k8 h8i k8i
    go_wp2_with fail
    refine (s_open HD2.out).mono ?_
    rintro e w3 ⟨b3, hor⟩
    obtain ⟨-, bs, rfl, hs3⟩ := hor.resolve_right (fun h => h.1 (state_whole (fun _ => rfl) rfl 0))
    have H3 := Lib.hid hs3; have B3 := Lib.hid (below_more B2.out b3 (Nat.le_refl _)); clear hs3 hor HD2 b3 B2
    have hl63 : l.length ≤ 9223372036854775807 := by have := HL1.out; omega
    have hs63 : hs.length ≤ 9223372036854775807 := by have := HL2.out; omega
    go_wp2
    go_loopw [8] (fun i wr => ∃ k : Nat, k ≤ l.length ∧ i = .int .i64 k ∧ Sess wr bs bd bp bm (newA 700) ∧ Below w.heap.size w wr ∧ Hid (∀ j, (h : j < l.length) → j < k → l[j].drop = false)) (fun i _ => l.length - (intOf i).toNat)
    case atStart => exact ⟨0, by omega, rfl, H3.out, B3.out, Lib.hid fun j _ hj => by omega⟩
    case round =>
      obtain ⟨k, hk, rfl, hse, hbr, HB⟩ := hrel
      by_cases hlt : k < l.length
      · have hki : (k : Int) < (l.length : Int) := by omega
        obtain ⟨b, off, c', he, -, -, h2⟩ := PutsAt.cells (ps := l) (Rd.below HP.out hbr (Nat.le_refl _)) hlt
        cases he
        have HNX : Hid (l[k].drop = false → ∀ j, (h : j < l.length) → j < k + 1 → l[j].drop = false) := Lib.hid fun h1 j hj hjk => by
          rcases Nat.lt_succ_iff_lt_or_eq.1 hjk with hlt | rfl
          · exact HB.out j hj hlt
          · exact h1
        clear HB
        have HSE := Lib.hid hse; clear hse
        generalize hdk : l[k].drop = d at *
        cases d
        · have HNY := Lib.hid (HNX.out rfl); clear HNX hdk
          go_wp2
          go_roundw
          case rel => exact ⟨k + 1, by omega, by go_num, HSE.out, hbr, HNY⟩
          case measure => simp [intOf]; omega
        · clear hdk HNX
          go_wp2_with fail
          refine (shown_any wr).mono ?_
          rintro e w4 ⟨rfl, b4⟩
          have HB4 := Lib.hid (below_more hbr b4 (Nat.le_refl _)); clear b4
          go_wp2
          go_ret
          exact ⟨rfl, HB4.out⟩
      · obtain rfl : k = l.length := by omega
        have HDR : Hid (∀ x ∈ l, x.drop = false) := Lib.hid fun x hx => by
          obtain ⟨j, hj, rfl⟩ := List.getElem_of_mem hx
          exact HB.out j hj hj
        clear HB
        have HSE := Lib.hid hse; have HBR := Lib.hid hbr; clear hse hbr H3 B3
        go_wp2_with fail
        refine (s_do HSE.out (by decide) _ l (HP.out.below HBR.out (Nat.le_refl _)) (Nat.le_trans HL1.out (by omega))).mono ?_
        rintro e w4 ⟨r, hr, rfl, hs4, ho4⟩
        have H4 := Lib.hid hs4; have B4 := Lib.hid (below_only3 HBR.out ho4 (Nat.le_refl _) HFN.out)
        have HG := Lib.hid (fun h0 => good_first (n := 700) hr h0 HDR.out)
        clear hs4 ho4 HSE HBR hr
        generalize (newA 700).doA l r = R1 at *
        obtain ⟨e1, A0⟩ := R1
        unfold iv
        dsimp only at H4 HG ⊢
        by_cases he1 : e1 = 0
        case neg =>
          have he1i : ¬ (e1 : Int) = 0 := by omega
          go_wp2_with fail
          refine (shown_any _).mono ?_
          rintro e w5 ⟨rfl, b5⟩
          have HB5 := Lib.hid (below_more B4.out b5 (Nat.le_refl _)); clear b5
          go_wp2
          go_ret
          exact ⟨rfl, HB5.out⟩
        subst he1
        obtain ⟨hg0, hok, hdf⟩ := HG.out rfl
        have HG0 := Lib.hid hg0; have HOK := Lib.hid hok; have HDF := Lib.hid hdf; clear hg0 hok hdf HG
        go_wp2
        go_loopw [9, 10] (fun m i wr => ∃ k q : Nat, ∃ A : AD, k ≤ hs.length ∧ q ≤ k ∧ m = .int .i64 q ∧ i = .int .i64 k ∧ Sess wr bs bd bp bm A ∧ Hid (Good A l 0 (decide (q ≠ 0)) 2) ∧ Below w.heap.size w wr) (fun _ i _ => hs.length - (intOf i).toNat)
        case atStart => exact ⟨0, 0, A0, by omega, by omega, rfl, rfl, H4.out, HG0, B4.out⟩
        case round =>
          obtain ⟨k, q, A, hk, hq, rfl, rfl, hse, HG, hbr⟩ := hrel
          by_cases hlt : k < hs.length
          · have hki : (k : Int) < (hs.length : Int) := by omega
            obtain ⟨b, off, c', he, hc⟩ := (HA.out.below hbr (Nat.le_refl _)).cells hlt
            cases he
            have c3 : wr.cell? ⟨b, off + k * 6 + 3, none⟩ = some (.int .i64 hs[k].x) := hc 3 (by omega)
            have c4 : wr.cell? ⟨b, off + k * 6 + 4, none⟩ = some (.int .i64 hs[k].y) := hc 4 (by omega)
            have c5 : wr.cell? ⟨b, off + k * 6 + 5, none⟩ = some (.int .u8 hs[k].flip.toNat) := hc 5 (by omega)
            generalize hs[k].x = ax at *
            generalize hs[k].y = ay at *
            generalize hs[k].flip = af at *
            have HSE := Lib.hid hse; have HBR := Lib.hid hbr; clear hse hbr hc
            go_wp2
            have hb : b < w.heap.size := by
              obtain ⟨b', off', c', he, hc⟩ := HA.out.cells hlt
              cases he
              exact block_lt_of_cell (hc 0 (by omega))
            refine wp_region_held (S := fun W => W.cell? ⟨b, off + k * 6 + 3, none⟩ = some (.int .i64 ax) ∧ W.cell? ⟨b, off + k * 6 + 4, none⟩ = some (.int .i64 ay) ∧ W.cell? ⟨b, off + k * 6 + 5, none⟩ = some (.int .u8 af.toNat)) (by kernel_rfl) ?_
            have hS0 : wr.drew.cell? ⟨b, off + k * 6 + 3, none⟩ = some (.int .i64 ax) ∧ wr.drew.cell? ⟨b, off + k * 6 + 4, none⟩ = some (.int .i64 ay) ∧ wr.drew.cell? ⟨b, off + k * 6 + 5, none⟩ = some (.int .u8 af.toNat) := ⟨c3, c4, c5⟩
            change wpAnyH _ _ _ _ _ _ _ _ wr.drew
            refine wpAnyH_take (i := 0) (v := ?_) rfl (by kernel_rfl) (by kernel_rfl) (by kernel_rfl) (fun _ _ _ h => h) (.inl ⟨by rfl, fun W hS => ?_⟩) hS0 ?_
            rotate_left
            · obtain ⟨s3, s4, s5⟩ := hS; unfold execOp; go_simp; try with_reducible rfl
            refine wpAnyH_take (i := 1) (v := ?_) rfl (by kernel_rfl) (by kernel_rfl) (by kernel_rfl) (fun _ _ _ h => h) (.inl ⟨by rfl, fun W hS => ?_⟩) hS0 ?_
            rotate_left
            · obtain ⟨s3, s4, s5⟩ := hS; unfold execOp; go_simp; try with_reducible rfl
            refine wpAnyH_take (i := 2) (v := ?_) rfl (by kernel_rfl) (by kernel_rfl) (by kernel_rfl) (fun _ _ _ h => h) (.inl ⟨by rfl, fun W hS => ?_⟩) hS0 ?_
            rotate_left
            · obtain ⟨s3, s4, s5⟩ := hS; unfold execOp; go_simp; try with_reducible rfl
            refine wpAnyH_take (i := 3) (v := ?_) rfl (by kernel_rfl) (by kernel_rfl) (by kernel_rfl) (fun _ _ _ h => h) (.inl ⟨by rfl, fun W hS => ?_⟩) hS0 ?_
            rotate_left
            · obtain ⟨s3, s4, s5⟩ := hS; unfold execOp; go_simp; try with_reducible rfl
            refine wpAnyH_take (i := 4) (v := ?_) rfl (by kernel_rfl) (by kernel_rfl) (by kernel_rfl) (fun _ _ _ h => h) (.inl ⟨by rfl, fun W hS => ?_⟩) hS0 ?_
            rotate_left
            · obtain ⟨s3, s4, s5⟩ := hS; unfold execOp; go_simp; try with_reducible rfl
            refine wpAnyH_take (i := 5) (v := ?_) rfl (by kernel_rfl) (by kernel_rfl) (by kernel_rfl) (fun _ _ _ h => h) (.inl ⟨by rfl, fun W hS => ?_⟩) hS0 ?_
            rotate_left
            · obtain ⟨s3, s4, s5⟩ := hS; unfold execOp; go_simp; try with_reducible rfl
            refine wpAnyH_take (i := 8) (v := ?_) rfl (by kernel_rfl) (by kernel_rfl) (by kernel_rfl) (fun _ _ _ h => h) (.inl ⟨by rfl, fun W hS => ?_⟩) hS0 ?_
            rotate_left
            · obtain ⟨s3, s4, s5⟩ := hS; unfold execOp; go_simp; try with_reducible rfl
            refine wpAnyH_take (i := 9) (v := ?_) rfl (by kernel_rfl) (by kernel_rfl) (by kernel_rfl) (fun _ _ _ h => h) (.inl ⟨by rfl, fun W hS => ?_⟩) hS0 ?_
            rotate_left
            · obtain ⟨s3, s4, s5⟩ := hS; unfold execOp; go_simp; try with_reducible rfl
            refine wpAnyH_take (i := 10) (v := ?_) rfl (by kernel_rfl) (by kernel_rfl) (by kernel_rfl) (fun _ _ _ h => h) (.inl ⟨by rfl, fun W hS => ?_⟩) hS0 ?_
            rotate_left
            · obtain ⟨s3, s4, s5⟩ := hS; unfold execOp; go_simp; try with_reducible rfl
            refine wpAnyH_take (i := 11) (v := ?_) rfl (by kernel_rfl) (by kernel_rfl) (by kernel_rfl) (fun _ _ _ h => h) (.inl ⟨by rfl, fun W hS => ?_⟩) hS0 ?_
            rotate_left
            · obtain ⟨s3, s4, s5⟩ := hS; unfold execOp; go_simp; try with_reducible rfl
            refine wpAnyH_take (i := 12) (v := ?_) rfl (by kernel_rfl) (by kernel_rfl) (by kernel_rfl) (fun _ _ _ h => h) (.inl ⟨by rfl, fun W hS => ?_⟩) hS0 ?_
            rotate_left
            · obtain ⟨s3, s4, s5⟩ := hS; unfold execOp; go_simp; try with_reducible rfl
            refine wpAnyH_take (i := 14) (v := ?_) rfl (by kernel_rfl) (by kernel_rfl) (by kernel_rfl) (fun _ _ _ h => h) (.inl ⟨by rfl, fun W hS => ?_⟩) hS0 ?_
            rotate_left
            · obtain ⟨s3, s4, s5⟩ := hS; unfold execOp; go_simp; try with_reducible rfl
            refine wpAnyH_take (i := 15) (v := ?_) rfl (by kernel_rfl) (by kernel_rfl) (by kernel_rfl) (fun _ _ _ h => h) (.inl ⟨by rfl, fun W hS => ?_⟩) hS0 ?_
            rotate_left
            · obtain ⟨s3, s4, s5⟩ := hS; unfold execOp; go_simp; try with_reducible rfl
            refine wpAnyH_take (i := 16) (v := ?_) rfl (by kernel_rfl) (by kernel_rfl) (by kernel_rfl) (fun _ _ _ h => h) (.inl ⟨by rfl, fun W hS => ?_⟩) hS0 ?_
            rotate_left
            · obtain ⟨s3, s4, s5⟩ := hS; unfold execOp; go_simp; try with_reducible rfl
            refine wpAnyH_take (i := 17) (v := ?_) rfl (by kernel_rfl) (by kernel_rfl) (by kernel_rfl) (fun _ _ _ h => h) (.inl ⟨by rfl, fun W hS => ?_⟩) hS0 ?_
            rotate_left
            · obtain ⟨s3, s4, s5⟩ := hS; unfold execOp; go_simp; try with_reducible rfl
            refine wpAnyH_take (i := 18) (v := ?_) rfl (by kernel_rfl) (by kernel_rfl) (by kernel_rfl) (fun _ _ _ h => h) (.inl ⟨by rfl, fun W hS => ?_⟩) hS0 ?_
            rotate_left
            · obtain ⟨s3, s4, s5⟩ := hS; unfold execOp; go_simp; try with_reducible rfl
            refine wpAnyH_all (rs := [6]) (by kernel_rfl) (by simp) ?_
            intro i hi
            obtain rfl : i = 6 := by simpa using hi
            refine op_at rfl rfl ?_
            go_simp
            refine (pick_int _ (by decide) (by decide) _ _).mono ?_
            rintro e' w5 ⟨⟨r1, hr1, rfl⟩, rfl⟩
            refine ⟨hS0, ?_⟩
            refine wpAnyH_take (i := 7) (v := ?_) rfl (by kernel_rfl) (by kernel_rfl) (by kernel_rfl) (fun _ _ _ h => h) (.inl ⟨by rfl, fun W hS => ?_⟩) hS0 ?_
            rotate_left
            · obtain ⟨s3, s4, s5⟩ := hS; unfold execOp; go_simp; try with_reducible rfl
            refine wpAnyH_all (rs := [13]) (by kernel_rfl) (by simp) ?_
            intro i hi
            obtain rfl : i = 13 := by simpa using hi
            refine op_at rfl rfl ?_
            go_simp
            refine (pick_int _ (by decide) (by decide) _ _).mono ?_
            rintro e' w5 ⟨⟨r2, hr2, rfl⟩, rfl⟩
            refine ⟨hS0, ?_⟩
            refine wpAnyH_all (rs := [19]) (by kernel_rfl) (by simp) ?_
            intro i hi
            obtain rfl : i = 19 := by simpa using hi
            refine op_at rfl rfl ?_
            go_simp
            refine (s_damage_good (HSE.out.below ((Below.refl _ _).drew) (Nat.le_refl _)) HG.out _ _ af).mono ?_
            rintro e' w5 ⟨d, B, rfl, hs5, ho5, hg5, hg6⟩
            have hS5 : w5.cell? ⟨b, off + k * 6 + 3, none⟩ = some (.int .i64 ax) ∧ w5.cell? ⟨b, off + k * 6 + 4, none⟩ = some (.int .i64 ay) ∧ w5.cell? ⟨b, off + k * 6 + 5, none⟩ = some (.int .u8 af.toNat) := by
              obtain ⟨f1, f2, f3⟩ := HFN.out
              have hbl := ho5.block b (by have := HBR.out.size; show b < wr.heap.size; omega) (by omega) (by omega) (by omega)
              exact ⟨(World.cell?_of_block (a := ⟨b, off + k * 6 + 3, none⟩) hbl).trans c3, (World.cell?_of_block (a := ⟨b, off + k * 6 + 4, none⟩) hbl).trans c4, (World.cell?_of_block (a := ⟨b, off + k * 6 + 5, none⟩) hbl).trans c5⟩
            refine ⟨hS5, ?_⟩
            refine wpAnyH_take (i := 20) (v := ?_) rfl (by kernel_rfl) (by kernel_rfl) (by kernel_rfl) (fun _ _ _ h => h) (.inl ⟨by rfl, fun W hS => ?_⟩) hS5 ?_
            rotate_left
            · obtain ⟨s3, s4, s5⟩ := hS; unfold execOp; go_simp; try with_reducible rfl
            refine wpAnyH_done (by kernel_rfl) ?_ _
            clear hS5 hS0
            all_goals
              have H5 := Lib.hid hs5
              have B5 := Lib.hid (below_only3 (HBR.out.trans ((Below.refl _ wr).drew)) ho5 (Nat.le_refl _) HFN.out)
              have HG5 := Lib.hid hg5; have HG6 := Lib.hid hg6
              clear hs5 ho5 hg5 hg6 HSE HBR
              by_cases hd0 : d = 0
              · subst hd0
                have HG7 := Lib.hid (HG5.out rfl); clear HG5 HG6
                go_wp2
                refine ⟨?_, ?measure⟩
                repeat apply Exists.intro
                refine ⟨?rel, rfl⟩
                case rel => exact ⟨k + 1, q + 1, B, by omega, by omega, by go_num, by go_num, H5.out, HG7, B5.out⟩
                case measure => simp [intOf]; omega
              · have hdb : ((d : Int) == 0) = false := by rw [beq_eq_false_iff_ne]; omega
                have HG7 := Lib.hid (HG6.out hd0); clear HG5 HG6
                go_wp2
                refine ⟨?_, ?measure⟩
                repeat apply Exists.intro
                refine ⟨?rel, rfl⟩
                case rel => exact ⟨k + 1, q, B, by omega, by omega, rfl, by go_num, H5.out, by simpa using HG7, B5.out⟩
                case measure => simp [intOf]; omega
          · obtain rfl : k = hs.length := by omega
            have HSE := Lib.hid hse; have HBR := Lib.hid hbr; clear hse hbr H4 B4 HG0
            go_wp2
            go_loopw [11] (fun i wr => ∃ k : Nat, ∃ A : AD, k ≤ l.length ∧ i = .int .i64 k ∧ Sess wr bs bd bp bm A ∧ Hid (Good A l k (decide (q ≠ 0)) (2 + k)) ∧ Below w.heap.size w wr) (fun i _ => l.length - (intOf i).toNat)
            case atStart => exact ⟨0, A, by omega, rfl, HSE.out, HG, HBR.out⟩
            case round =>
              obtain ⟨k, A, hk, rfl, hse, HG, hbr⟩ := hrel
              by_cases hlt : k < l.length
              · have hki : (k : Int) < (l.length : Int) := by omega
                obtain ⟨b, off, c', he, h0, h1, -⟩ := PutsAt.cells (ps := l) (Rd.below HP.out hbr (Nat.le_refl _)) hlt
                cases he
                have HGG := Lib.hid (good_get HG.out HOK.out hlt)
                have HDO := Lib.hid (fun (r : Nat) (hm : decide (q ≠ 0) = true) (hr : RefusedIs [⟨l[k].name, newB, false⟩] r) (hasc : Asc A.des) => good_do (by rw [← hm]; exact HG.out) hasc HOK.out HDF.out hlt newB (by decide) hr)
                have HBLK : Hid (b < w.heap.size) := Lib.hid (by
                  obtain ⟨b', off', c', he, h0, -, -⟩ := PutsAt.cells (ps := l) HP.out hlt
                  cases he
                  exact block_lt_of_cell h0)
                generalize l[k].name = nm at *
                generalize l[k].value = vl at *
                have HSE := Lib.hid hse; have HBR := Lib.hid hbr; have H0 := Lib.hid h0; clear hse hbr h0
                have h0 := H0.out
                go_wp2_with fail
                refine (s_get HSE.out nm).mono ?_
                rintro e w5 ⟨rfl, b5⟩
                have H5 := Lib.hid (HSE.out.below b5 (Nat.le_refl _)); have B5 := Lib.hid (below_more HBR.out b5 (Nat.le_refl _))
                have g0 : w5.cell? ⟨b, off + k * 3, none⟩ = some (.string nm) := (b5.cell (p := ⟨b, off + k * 3, none⟩) (block_lt_of_cell H0.out)).trans H0.out
                have g1 : w5.cell? ⟨b, off + k * 3 + 1, none⟩ = some (.string vl) := (b5.cell (p := ⟨b, off + k * 3 + 1, none⟩) (block_lt_of_cell h1)).trans h1
                clear b5 h0 h1 H0 HSE HBR
                generalize A.get nm = g at *
                obtain ⟨gs, gn⟩ := g
                dsimp only at HGG ⊢
                by_cases hgn : gn = 370
                · subst hgn
                  have hq1 : q ≠ 0 := by
                    rcases HGG.out with h | h
                    · cases h
                    · simpa using h.2
                  have hqb : ((q : Int) == 0) = false := by rw [beq_eq_false_iff_ne]; omega
                  clear HGG
                  have HQ := Lib.hid hq1
                  have HASC : Hid (Asc A.des) := Lib.hid (let ⟨_, _, _, hR⟩ := H5.out; hR.asc)
                  go_wp2_with fail
                  refine (s_scrub H5.out).mono ?_
                  rintro e w6 ⟨v6, rfl, b6, -⟩
                  have H6 := Lib.hid (H5.out.below b6 (Nat.le_refl _)); have B6 := Lib.hid (below_more B5.out b6 (Nat.le_refl _))
                  have f0 : w6.cell? ⟨b, off + k * 3, none⟩ = some (.string nm) := (b6.cell (p := ⟨b, off + k * 3, none⟩) (block_lt_of_cell g0)).trans g0
                  clear b6 g0 g1 H5 B5
                  unfold iv
                  go_wp2_with fail
                  refine (show Calls Try.prog 23 #[.string nm, .string newB] w6 _ from put_any nm newB w6).mono ?_
                  rintro e w7 ⟨v7, rfl, hp7, b7⟩
                  have HP7 := Lib.hid hp7; have H7 := Lib.hid (H6.out.below b7 (Nat.le_refl _)); have B7 := Lib.hid (below_more B6.out b7 (Nat.le_refl _))
                  have e0 : w7.cell? ⟨b, off + k * 3, none⟩ = some (.string nm) := (b7.cell (p := ⟨b, off + k * 3, none⟩) (block_lt_of_cell f0)).trans f0
                  have E0 := Lib.hid e0
                  clear b7 f0 e0 hp7 H6 B6
                  go_wp2_with fail
                  refine (s_do H7.out (by have := HG.out.change; have := HL1.out; omega) _ [⟨nm, newB, false⟩] HP7.out (by show 1 ≤ 1000000; omega)).mono ?_
                  rintro e w8 ⟨r, hr, rfl, hs8, ho8⟩
                  have H8 := Lib.hid hs8; have B8 := Lib.hid (below_only3 B7.out ho8 (Nat.le_refl _) HFN.out)
                  have d0 : w8.cell? ⟨b, off + k * 3, none⟩ = some (.string nm) := by
                    obtain ⟨f1, f2, f3⟩ := HFN.out
                    have := HBLK.out
                    exact (World.cell?_of_block (a := ⟨b, off + k * 3, none⟩) (ho8.block b (block_lt_of_cell E0.out) (by omega) (by omega) (by omega))).trans E0.out
                  have HD := Lib.hid (HDO.out r (by simpa using HQ.out) hr HASC.out)
                  clear hs8 ho8 hr HDO H7 B7 E0 HP7
                  generalize A.scrub.2 = sf at *
                  generalize A.doA [⟨nm, newB, false⟩] r = R at *
                  obtain ⟨e8, A8⟩ := R
                  dsimp only at HD H8 ⊢
                  unfold iv
                  have HG8 : Hid (Good A8 l (k + 1) (decide (q ≠ 0)) (2 + (k + 1))) := Lib.hid (by have h := HD.out.1; rw [decide_eq_true HQ.out]; exact h)
                  rcases HD.out.2 with ⟨h1, h2⟩ | h1 | ⟨h1, h2, h3⟩
                  · subst h1
                    have h2i : ((e8 : Int) == 0) = false := by rw [beq_eq_false_iff_ne]; omega
                    have h3i : ((e8 : Int) != (e8 : Int)) = false := by simp
                    clear HD d0 h2
                    go_wp2
                    refine ⟨?_, ?measure⟩
                    repeat apply Exists.intro
                    refine ⟨?rel, rfl⟩
                    case rel => exact ⟨k + 1, A8, by omega, by go_num, H8.out, HG8, B8.out⟩
                    case measure => simp [intOf]; omega
                  · subst h1
                    clear HD d0
                    by_cases hs5 : ((sf : Int) != 5) = true
                    · go_wp2
                      refine ⟨?_, ?measure⟩
                      repeat apply Exists.intro
                      refine ⟨?rel, rfl⟩
                      case rel => exact ⟨k + 1, A8, by omega, by go_num, H8.out, HG8, B8.out⟩
                      case measure => simp [intOf]; omega
                    · have hs6 : ((sf : Int) != 5) = false := by simpa using hs5
                      go_wp2
                      refine ⟨?_, ?measure⟩
                      repeat apply Exists.intro
                      refine ⟨?rel, rfl⟩
                      case rel => exact ⟨k + 1, A8, by omega, by go_num, H8.out, HG8, B8.out⟩
                      case measure => simp [intOf]; omega
                  · subst h1 h2
                    have HN := Lib.hid h3
                    clear HD h3
                    go_wp2_with fail
                    refine (s_get H8.out nm).mono ?_
                    rintro e w9 ⟨rfl, b9⟩
                    rw [show (Value.tuple #[.string (A8.get nm).1, .int .i64 (A8.get nm).2]) = .tuple #[.string { data := #[110, 101, 119] }, .int .i64 0] by rw [HN.out]; rfl]
                    have H9 := Lib.hid (H8.out.below b9 (Nat.le_refl _)); have B9 := Lib.hid (below_more B8.out b9 (Nat.le_refl _)); clear b9 H8 B8 d0
                    go_wp2
                    refine ⟨?_, ?measure⟩
                    repeat apply Exists.intro
                    refine ⟨?rel, rfl⟩
                    case rel => exact ⟨k + 1, A8, by omega, by go_num, H9.out, HG8, B9.out⟩
                    case measure => simp [intOf]; omega
                · obtain ⟨rfl, rfl⟩ : gs = vl ∧ gn = 0 := by
                    rcases HGG.out with h | h
                    · cases h; exact ⟨rfl, rfl⟩
                    · exact absurd h.1 hgn
                  clear HGG HDO
                  go_wp2
                  go_roundw
                  case rel => exact ⟨k + 1, A, by omega, by go_num, H5.out, Lib.hid HG.out.next, B5.out⟩
                  case measure => simp [intOf]; omega
              · obtain rfl : k = l.length := by omega
                have HBR := Lib.hid hbr; clear hbr
                go_wp2_with fail
                refine (shown_any _).mono ?_
                rintro e w5 ⟨rfl, b5⟩
                have HB5 := Lib.hid (below_more HBR.out b5 (Nat.le_refl _)); clear b5
                go_wp2
                go_ret
                exact ⟨rfl, HB5.out⟩
end Go.Proofs.Ytcgapfmdpchemaa
