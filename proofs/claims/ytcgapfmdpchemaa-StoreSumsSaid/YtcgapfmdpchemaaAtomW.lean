/- The walk of StoreAtomic. -/
import Derived.Test.YtcgapfmdpchemaaVals
import Derived.Test.YtcgapfmdpchemaaLook
namespace Go.Proofs.Ytcgapfmdpchemaa
open Go.RowKit
/-- a step with nothing but changes -/
def acOf (v : Value) (l : List Pt) : Ac := ⟨0, v, l, { data := #[] }, 0, 0, 0⟩
theorem vals_of (g h : ByteArray → ByteArray × Nat) (l : List Pt) (e : ∀ m, g m = h m) : (l.map fun x => g x.name) = l.map fun x => h x.name := by
  apply List.map_congr_left
  intro x _
  exact e _
theorem follow_of {A : AD} {l : List Pt} (h : ∀ x ∈ l, if x.drop then A.get x.name = (ByteArray.empty, 4) else A.get x.name = (x.value, 0)) : Follow (l.map fun x => A.get x.name) l := by
  refine ⟨by simp, fun k hk hg => ?_⟩
  have := h l[k] (List.getElem_mem hg)
  rw [List.getElem_map]
  by_cases hd : l[k].drop = true
  · rw [if_pos hd] at this ⊢
    rw [this]
  · rw [if_neg hd] at this ⊢
    exact this
theorem vals_at {w : World} {base : Nat} {u : Value} {rs : List (ByteArray × Nat)} {n : Nat} (h : w.ownsRow base 106 2 u n (rs.flatMap vCells)) (hn : n = rs.length) : ValsAt w u rs := by
  subst hn; exact Rd_owns h
theorem ValsAt.only3 {w w' : World} {base bd bp bm n : Nat} {C : Cn} {u : Value} {xs : List Value} (h : w.ownsRow base 106 2 u n xs) (hD : DiskAt w bd bp bm C) (ho : Only3 bd bp bm w w') : w'.ownsRow base 106 2 u n xs := own_only3 h hD ho (by decide) (by decide)
set_option maxRecDepth 1000000 in
set_option maxHeartbeats 4000000 in
theorem storeAtomic_any (w : World) (v1 v2 : Value) (l1 l2 : List Pt) (n : Int) (hp1 : PutsAt w v1 l1) (hp2 : PutsAt w v2 l2) (hn : n ≤ 9223372036854775807) : Calls Try.prog 3 #[v1, v2, .int .i64 n] w fun e w' => e = .returned (.bool true) ∧ Below w.heap.size w w' := by
  obtain ⟨A1, c1, rfl, -, -, -⟩ := id hp1
  obtain ⟨A2, c2, rfl, -, -, -⟩ := id hp2
  have HP1 := Lib.hid hp1; have HP2 := Lib.hid hp2; clear hp1 hp2
  go_enter Try.func3, Try.ntmps3
  go_wp2_with fail
  have hrd := Rd_new w (acCells (acOf (.slice A1 l1.length c1) l1) ++ acCells (acOf (.slice A2 l2.length c2) l2)) 25 _ 2 rfl
  have hacts : ActsAt (w.alloc (Obj.cells (acCells (acOf (.slice A1 l1.length c1) l1) ++ acCells (acOf (.slice A2 l2.length c2) l2)).toArray 25)) (.slice (some ⟨w.heap.size, 0, none⟩) 2 2) [acOf (.slice A1 l1.length c1) l1, acOf (.slice A2 l2.length c2) l2] :=
    ⟨hrd, fun s hs => by
      rcases List.mem_cons.1 hs with rfl | hs
      · exact HP1.out.below ((Below.refl _ w).alloc (Nat.le_refl _) _) (Nat.le_refl _)
      · rw [List.mem_singleton] at hs
        subst hs
        exact HP2.out.below ((Below.refl _ w).alloc (Nat.le_refl _) _) (Nat.le_refl _)⟩
  refine (great_any _ _ _ 2 hacts).mono ?_
  rintro e w1 ⟨⟨b, rfl, hb⟩, b1⟩
  have B1 := Lib.hid (below_more ((Below.refl _ w).alloc (Nat.le_refl _) _) b1 (Nat.le_refl _))
  have HS := Lib.hid hb
  clear hrd hacts b1 hb
  cases b with
  | true =>
    go_wp2_with fail
    refine (shown_any w1).mono ?_
    rintro e w3 ⟨rfl, b3⟩
    have HB3 := Lib.hid (below_more B1.out b3 (Nat.le_refl _)); clear b3
    go_wp2
    go_ret
    exact ⟨rfl, HB3.out⟩
  | false =>
    by_cases h8 : 8 < l1.length
    · have h8i : (8 : Int) < (l1.length : Int) := by omega
      go_wp2_with fail
      refine (shown_any w1).mono ?_
      rintro e w3 ⟨rfl, b3⟩
      have HB3 := Lib.hid (below_more B1.out b3 (Nat.le_refl _)); clear b3
      go_wp2
      go_ret
      exact ⟨rfl, HB3.out⟩
    by_cases k8 : 8 < l2.length
    · have h8i : ¬ (8 : Int) < (l1.length : Int) := by omega
      have k8i : (8 : Int) < (l2.length : Int) := by omega
      go_wp2_with fail
      refine (shown_any w1).mono ?_
      rintro e w3 ⟨rfl, b3⟩
      have HB3 := Lib.hid (below_more B1.out b3 (Nat.le_refl _)); clear b3
      go_wp2
      go_ret
      exact ⟨rfl, HB3.out⟩
    have h8i : ¬ (8 : Int) < (l1.length : Int) := by omega
    have k8i : ¬ (8 : Int) < (l2.length : Int) := by omega
    by_cases hneg : n < 0
    · go_wp2_with fail
      refine (shown_any w1).mono ?_
      rintro e w3 ⟨rfl, b3⟩
      have HB3 := Lib.hid (below_more B1.out b3 (Nat.le_refl _)); clear b3
      go_wp2
      go_ret
      exact ⟨rfl, HB3.out⟩
    have HL1 : Hid (l1.length ≤ 8) := Lib.hid (by omega)
    have HL2 : Hid (l2.length ≤ 8) := Lib.hid (by omega)
    go_wp2_with fail
    refine (newDisk_fresh w1 600 (by omega) (by omega)).mono ?_
    rintro e w2 ⟨bd, rfl, ⟨bp, bm, hd2, hf2⟩, b2⟩
    have HF := Lib.hid hf2; have B2 := Lib.hid (below_more B1.out b2 (Nat.le_refl _))
    have HFN : Hid (w.heap.size ≤ bd ∧ w.heap.size ≤ bp ∧ w.heap.size ≤ bm) := Lib.hid (by have := B1.out.size; obtain ⟨x, y, z⟩ := hf2; omega)
    have HD2 : Hid (AtD w2 bd bp bm (newA 600)) := Lib.hid ⟨_, hd2, rep_new 600 (by omega) (by omega)⟩; clear hd2 hf2 b2 B1 h8 k8 h8i k8i
    go_wp2_with fail
    refine (s_open HD2.out).mono ?_
    rintro e w3 ⟨b3, hor⟩
    obtain ⟨-, bs, rfl, hs3⟩ := hor.resolve_right (fun h => h.1 (state_whole (fun _ => rfl) rfl 0))
    have H3 := Lib.hid hs3; have B3 := Lib.hid (below_more B2.out b3 (Nat.le_refl _)); clear hs3 hor HD2 b3 B2
    go_wp2_with fail
    refine (s_do H3.out (by decide) _ l1 (HP1.out.below B3.out (Nat.le_refl _)) (Nat.le_trans HL1.out (by omega))).mono ?_
    rintro e w4 ⟨r, hr, rfl, hs4, ho4⟩
    have H4 := Lib.hid hs4; have B4 := Lib.hid (below_only3 B3.out ho4 (Nat.le_refl _) HFN.out)
    have HFI := Lib.hid (first_done 600 l1 r hr)
    clear hs4 ho4 B3 H3 hr
    generalize (newA 600).doA l1 r = R1 at *
    obtain ⟨e1, A1'⟩ := R1
    unfold iv
    dsimp only at H4 HFI ⊢
    by_cases he1 : e1 = 0
    case neg =>
      have he1i : ¬ (e1 : Int) = 0 := by omega
      go_wp2_with fail
      refine (shown_any _).mono ?_
      rintro e w5 ⟨rfl, b5⟩
      have HB5 := Lib.hid (below_more B4.out b5 (Nat.le_refl _)); clear b5
      go_wp2
      go_ret
      exact ⟨rfl, HB5.out⟩
    subst he1
    obtain ⟨hw1, hdn1, hch1⟩ := HFI.out rfl
    have HW := Lib.hid hw1; have HDN := Lib.hid hdn1; have HCH := Lib.hid hch1; clear HFI hw1 hdn1 hch1
    have HASC : Hid (Asc A1'.des) := Lib.hid (let ⟨_, _, _, hR⟩ := H4.out; hR.asc)
    go_wp2_with fail
    refine (values_any w4 H4.out _ l2 (HP2.out.below B4.out (Nat.le_refl _)) (Nat.le_trans HL2.out (by omega))).mono ?_
    rintro e w5 ⟨u5, rfl, b5, own5⟩
    have OWN5 := Lib.hid own5; have H5 := Lib.hid (H4.out.below b5 (Nat.le_refl _)); have B5 := Lib.hid (below_more B4.out b5 (Nat.le_refl _)); clear own5 b5 H4 B4
    go_wp2_with fail
    refine (s_free H5.out).mono ?_
    rintro e w6 ⟨rfl, b6⟩
    have hfr : A1'.free = (A1'.freeL.length, 0) := by
      unfold AD.free
      rw [state_whole HW.out HDN.out 0]; rfl
    rw [hfr]
    have HFR := Lib.hid hfr; clear hfr
    have OWN6 := Lib.hid (own_below OWN5.out b6 (Nat.le_refl _)); have H6 := Lib.hid (H5.out.below b6 (Nat.le_refl _)); have B6 := Lib.hid (below_more B5.out b6 (Nat.le_refl _)); clear b6 H5 B5 OWN5
    unfold iv
    dsimp only
    generalize A1'.freeL.length = fn at *
    go_wp2_with fail
    refine (s_fail H6.out n (by omega) hn).mono ?_
    rintro e w7 ⟨rfl, hs7, ho7⟩
    have OWN7 := (let ⟨_, C, hD, _⟩ := H6.out; Lib.hid (own_only3 OWN6.out hD ho7 (by decide) (by decide)))
    have H7 := Lib.hid hs7; have B7 := Lib.hid (below_only3 B6.out ho7 (Nat.le_refl _) HFN.out); clear hs7 ho7 B6 H6 OWN6
    go_wp2_with fail
    refine (s_do H7.out (by have := HCH.out; show A1'.change + 1 < _; omega) _ l2 (HP2.out.below B7.out (Nat.le_refl _)) (Nat.le_trans HL2.out (by omega))).mono ?_
    rintro e w8 ⟨r2, hr2, rfl, hs8, ho8⟩
    have OWN8 := (let ⟨_, C, hD, _⟩ := H7.out; Lib.hid (own_only3 OWN7.out hD ho8 (by decide) (by decide)))
    have H8 := Lib.hid hs8; have B8 := Lib.hid (below_only3 B7.out ho8 (Nat.le_refl _) HFN.out)
    have HLAW := Lib.hid (atom_law HW.out HDN.out HASC.out n hr2)
    clear hs8 ho8 B7 H7 OWN7 hr2
    generalize AD.doA { A1' with fuse := n } l2 r2 = R2 at *
    obtain ⟨e2, A2'⟩ := R2
    unfold iv
    dsimp only at H8 ⊢
    rcases HLAW.out with ⟨g0, g9, gd, gg⟩ | ⟨g9, gd, gs, gf, gg⟩ | ⟨g0, gd, gs, gg⟩
    · dsimp only at g0 g9 gd gg
      have g0i : ¬ (e2 : Int) = 0 := by omega
      have g9i : ¬ (e2 : Int) = 9 := by omega
      have g0b : ((e2 : Int) != 0) = true := by rw [bne_iff_ne]; exact g0i
      have g9b : ((e2 : Int) != 9) = true := by rw [bne_iff_ne]; exact g9i
      have GG := Lib.hid gg; have GD := Lib.hid gd; clear gg g0 g9 gd HLAW
      go_wp2_with fail
      refine (s_down H8.out).mono ?_
      rintro e w9 ⟨rfl, rfl⟩
      rw [show Value.bool A2'.down = .bool false by rw [GD.out]]
      go_wp2_with fail
      refine (values_any _ H8.out _ l2 (HP2.out.below B8.out (Nat.le_refl _)) (Nat.le_trans HL2.out (by omega))).mono ?_
      rintro e w10 ⟨u10, rfl, b10, own10⟩
      rw [vals_of A2'.get A1'.get l2 GG.out] at own10
      have OWN10 := Lib.hid own10; have OWN9 := Lib.hid (own_below OWN8.out b10 (Nat.le_refl _)); have B10 := Lib.hid (below_more B8.out b10 (Nat.le_refl _)); clear own10 b10 H8 B8 OWN8
      go_wp2_with fail
      refine (same_any _ _ _ _ (vals_at OWN10.out (by simp)) (vals_at OWN9.out (by simp)) (by rw [List.length_map]; exact Nat.le_trans HL2.out (by omega))).mono ?_
      rintro e w11 ⟨rfl, b11⟩
      have B11 := Lib.hid (below_more B10.out b11 (Nat.le_refl _)); clear b11 B10 OWN9 OWN10
      go_wp2_with fail
      refine (shown_any _).mono ?_
      rintro e w12 ⟨rfl, b12⟩
      have B12 := Lib.hid (below_more B11.out b12 (Nat.le_refl _)); clear b12 B11
      go_wp2
      go_ret
      exact ⟨rfl, B12.out⟩
    · dsimp only at g9 gd gs gf gg
      subst g9
      have GG := Lib.hid gg; have GD := Lib.hid gd; have GS := Lib.hid gs; have GF := Lib.hid gf; clear gg gd gs gf HLAW
      go_wp2_with fail
      refine (s_down H8.out).mono ?_
      rintro e w9 ⟨rfl, rfl⟩
      rw [show Value.bool A2'.down = .bool true by rw [GD.out]]
      go_wp2_with fail
      refine (s_restart H8.out).mono ?_
      rintro e w10 ⟨rfl, hs10, ho10⟩
      have OWN10 := (let ⟨_, C, hD, _⟩ := H8.out; Lib.hid (own_only3 OWN8.out hD ho10 (by decide) (by decide)))
      have H10 := Lib.hid hs10.d; have B10 := Lib.hid (below_only3 B8.out ho10 (Nat.le_refl _) HFN.out); clear hs10 ho10 B8 H8 OWN8
      go_wp2_with fail
      refine (s_open H10.out).mono ?_
      rintro e w11 ⟨b11, hor⟩
      obtain ⟨-, bs2, rfl, hs11⟩ := hor.resolve_right (fun h => h.1 GS.out)
      have OWN11 := Lib.hid (own_below OWN10.out b11 (Nat.le_refl _)); have H11 := Lib.hid hs11; have B11 := Lib.hid (below_more B10.out b11 (Nat.le_refl _)); clear hs11 hor H10 b11 B10 OWN10
      go_wp2_with fail
      refine (values_any _ H11.out _ l2 (HP2.out.below B11.out (Nat.le_refl _)) (Nat.le_trans HL2.out (by omega))).mono ?_
      rintro e w12 ⟨u12, rfl, b12, own12⟩
      rw [vals_of _ A1'.get l2 GG.out] at own12
      have OWN12 := Lib.hid own12; have OWN11' := Lib.hid (own_below OWN11.out b12 (Nat.le_refl _)); have H12 := Lib.hid (H11.out.below b12 (Nat.le_refl _)); have B12 := Lib.hid (below_more B11.out b12 (Nat.le_refl _)); clear own12 b12 H11 B11 OWN11
      go_wp2_with fail
      refine (s_free H12.out).mono ?_
      rintro e w13 ⟨rfl, b13⟩
      rw [GF.out, HFR.out]
      unfold iv
      dsimp only
      have OWN13 := Lib.hid (own_below OWN11'.out b13 (Nat.le_refl _)); have OWN13' := Lib.hid (own_below OWN12.out b13 (Nat.le_refl _)); have B13 := Lib.hid (below_more B12.out b13 (Nat.le_refl _)); clear b13 B12 H12 OWN12 OWN11'
      go_wp2_with fail
      refine (same_any _ _ _ _ (vals_at OWN13'.out (by simp)) (vals_at OWN13.out (by simp)) (by rw [List.length_map]; exact Nat.le_trans HL2.out (by omega))).mono ?_
      rintro e w14 ⟨rfl, b14⟩
      have B14 := Lib.hid (below_more B13.out b14 (Nat.le_refl _)); clear b14 B13 OWN13 OWN13'
      go_wp2_with fail
      refine (shown_any _).mono ?_
      rintro e w15 ⟨rfl, b15⟩
      have B15 := Lib.hid (below_more B14.out b15 (Nat.le_refl _)); clear b15 B14
      go_wp2
      go_ret
      exact ⟨rfl, B15.out⟩
    · dsimp only at g0 gd gs gg
      subst g0
      have GG := Lib.hid gg; have GD := Lib.hid gd; have GS := Lib.hid gs; clear gg gd gs HLAW OWN8
      go_wp2_with fail
      refine (s_down H8.out).mono ?_
      rintro e w9 ⟨rfl, rfl⟩
      rw [show Value.bool A2'.down = .bool false by rw [GD.out]]
      go_wp2_with fail
      refine (s_restart H8.out).mono ?_
      rintro e w10 ⟨rfl, hs10, ho10⟩
      have H10 := Lib.hid hs10.d; have B10 := Lib.hid (below_only3 B8.out ho10 (Nat.le_refl _) HFN.out); clear hs10 ho10 B8 H8
      go_wp2_with fail
      refine (s_open H10.out).mono ?_
      rintro e w11 ⟨b11, hor⟩
      obtain ⟨-, bs2, rfl, hs11⟩ := hor.resolve_right (fun h => h.1 GS.out)
      have H11 := Lib.hid hs11; have B11 := Lib.hid (below_more B10.out b11 (Nat.le_refl _)); clear hs11 hor H10 b11 B10
      go_wp2_with fail
      refine (values_any _ H11.out _ l2 (HP2.out.below B11.out (Nat.le_refl _)) (Nat.le_trans HL2.out (by omega))).mono ?_
      rintro e w12 ⟨u12, rfl, b12, own12⟩
      have OWN12 := Lib.hid own12; have B12 := Lib.hid (below_more B11.out b12 (Nat.le_refl _)); clear own12 b12 H11 B11
      go_wp2_with fail
      refine (after_any _ _ _ _ l2 (vals_at OWN12.out (by simp)) (HP2.out.below B12.out (Nat.le_refl _)) (by rw [List.length_map]; exact Nat.le_trans HL2.out (by omega)) (follow_of GG.out)).mono ?_
      rintro e w14 ⟨rfl, b14⟩
      have B14 := Lib.hid (below_more B12.out b14 (Nat.le_refl _)); clear b14 B12 OWN12
      go_wp2_with fail
      refine (shown_any _).mono ?_
      rintro e w15 ⟨rfl, b15⟩
      have B15 := Lib.hid (below_more B14.out b15 (Nat.le_refl _)); clear b15 B14
      go_wp2
      go_ret
      exact ⟨rfl, B15.out⟩
end Go.Proofs.Ytcgapfmdpchemaa
