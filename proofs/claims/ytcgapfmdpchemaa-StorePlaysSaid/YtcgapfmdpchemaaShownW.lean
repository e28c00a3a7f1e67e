/- The walk of shown and of long. -/
import Derived.Test.YtcgapfmdpchemaaShown
namespace Go.Proofs.Ytcgapfmdpchemaa
open Go.RowKit
section
variable {ops : Array Oper} {rest : List Oper} {o : Oper} {a : Act} {w : World} {Q : Exit → Act → World → Prop}
/-- make([]byte, n) -/
theorem mk97 (hgd : o.guard = none) (x y : Operand) (ho : o.op = .makeSlice 97 x y) (n : Nat) (hn : n ≤ 100000) (hx : a.eval x = .int .i64 n) (hy : a.eval y = .int .i64 n)
    (h : ∀ w', w'.heap[w.heap.size]? = some (.cells (bvs (List.replicate n 0)).toArray 5 (0, 0)) → Rd w' (.slice (some ⟨w.heap.size, 0, none⟩) n n) n (bvs (List.replicate n 0)) → Below w.heap.size w w' → wpList Try.prog ops Q rest (a.put o.dst (.slice (some ⟨w.heap.size, 0, none⟩) n n)) w') : wpList Try.prog ops Q (o :: rest) a w :=
  wpList_plain hgd fun K hK => by
    obtain ⟨i0, hi, hz0, hz1, hz2⟩ := info_parts info5
    have hr := run_make (P := Try.prog) w 97 5 i0 (bv 0) Try.underlying97 hi hz0 .i64 .i64 (n : Int) (n : Int) (by omega) (by omega) (by rw [hz2]; omega) (by omega)
    have e1 : madeCells (bv 0).cells ((n : Int).toNat * i0.size) = (bvs (List.replicate n 0)).toArray := by
      rw [hz1, Nat.mul_one, Int.toNat_natCast]
      apply Array.toList_inj.1
      have := toList_madeCells_one (bv 0) n
      simpa [bvs, bv, Value.cells] using this
    rw [e1, Int.toNat_natCast] at hr
    unfold Oper.wp execOp
    simp only [ho, hx, hy, Sem.run_bind, hr, Result.andThen_ok, Sem.run_pure]
    exact hK _ _ (h _ (heap_alloc_new w _) (Rd_new w _ 5 _ n rfl (by unfold maxLen; omega)) ((Below.refl _ w).alloc (Nat.le_refl _) _))
end
theorem own_only3 {w w' : World} {base e size n bd bp bm : Nat} {v : Value} {xs : List Value} {C : Cn} (h : w.ownsRow base e size v n xs) (hD : DiskAt w bd bp bm C) (ho : Only3 bd bp bm w w') (h1 : e ≠ 70) (h2 : e ≠ 81) : w'.ownsRow base e size v n xs :=
  own_kept h fun b cs fr _ hb => by
    refine ho.block b (Array.getElem?_eq_some_iff.1 hb).1 ?_ ?_ ?_
    · rintro rfl; rw [hD.d] at hb; simp only [Option.some.injEq, Obj.cells.injEq] at hb; exact h1 hb.2.1.symm
    · rintro rfl; rw [hD.p] at hb; simp only [Option.some.injEq, Obj.cells.injEq] at hb; exact h2 hb.2.1.symm
    · rintro rfl; obtain ⟨es, ck, hm, _⟩ := hD.m; rw [hm] at hb; cases hb
theorem longs_any (n : Nat) (hn : n ≤ 100000) (w : World) : Calls Try.prog 29 #[.int .i64 n] w fun e w' => e = .returned (.string (zs n)) ∧ Below w.heap.size w w' := by
  go_enter Try.func29, Try.ntmps29
  have tok : True := trivial
  go_wp2_with (have _t := tok; refine mk97 rfl _ _ rfl n hn rfl rfl ?_)
  intro w1 _ h1 b1
  have H1 := Lib.hid h1; have B1 := Lib.hid b1; clear h1 b1 tok
  go_wp2_with (refine cv_str rfl _ rfl rfl H1.out (by simp) ?_)
  go_ret
  exact ⟨rfl, B1.out⟩
theorem refused_zero {l : List Pt} {r : Nat} (h : RefusedIs l r) (h1 : l.length ≤ 100) (h2 : l.any Pt.long = false) (h3 : ∀ k, (h : k < l.length) → badAt l k l[k] = false) : r = 0 := by
  rcases h with ⟨_, h | h⟩ | ⟨_, _, _, k, hk, h⟩ | ⟨h, _⟩
  · omega
  · rw [h2] at h; cases h
  · rw [h3 k hk] at h; cases h
  · exact h
theorem r1 {r : Nat} (h : RefusedIs sl1 r) : r = 0 := refused_zero h (by decide +kernel) (by decide +kernel) (by decide +kernel)
theorem r2 {r : Nat} (h : RefusedIs sl2 r) : r = 0 := refused_zero h (by decide +kernel) (by decide +kernel) (by decide +kernel)
theorem r3 {r : Nat} (h : RefusedIs sl3 r) : r = 0 := refused_zero h (by decide +kernel) (by decide +kernel) (by decide +kernel)
theorem r4 {r : Nat} (h : RefusedIs sl4 r) : r = 0 := refused_zero h (by decide +kernel) (by decide +kernel) (by decide +kernel)
theorem r5 {r : Nat} (h : RefusedIs sl5 r) : r = 0 := refused_zero h (by decide +kernel) (by decide +kernel) (by decide +kernel)
theorem r6 {r : Nat} (h : RefusedIs sl6 r) : r = 0 := refused_zero h (by decide +kernel) (by decide +kernel) (by decide +kernel)
theorem r7 {r : Nat} (h : RefusedIs sl7 r) : r = 0 := refused_zero h (by decide +kernel) (by decide +kernel) (by decide +kernel)
set_option maxRecDepth 1000000 in
set_option maxHeartbeats 4000000 in
theorem shown_any (w : World) : Calls Try.prog 8 #[] w fun e w' => e = .returned (.bool true) ∧ Below w.heap.size w w' := by
  go_enter Try.func8, Try.ntmps8
  go_wp2_with fail
  refine (newDisk_fresh w 8 (by omega) (by omega)).mono ?_
  rintro e w1 ⟨bd, rfl, ⟨bp, bm, hd1, hf1⟩, b1⟩
  have HF := Lib.hid hf1; have B1 := Lib.hid b1
  have HD1 : Hid (AtD w1 bd bp bm S0) := Lib.hid ⟨_, hd1, rep_new 8 (by omega) (by omega)⟩; clear hd1 hf1 b1
  go_wp2_with fail
  refine (s_open HD1.out).mono ?_
  rintro e w2 ⟨b2, hor⟩
  obtain ⟨-, bs, rfl, hs2⟩ := hor.resolve_right (fun h => h.1 s0_ok.1)
  have H2 := Lib.hid hs2; have B2 := Lib.hid (below_more B1.out b2 (Nat.le_refl _)); clear hs2 hor HD1 b2 B1
  go_wp2_with fail
  refine (s_free H2.out).mono ?_
  rintro e w3 ⟨rfl, b3⟩
  rw [show (Value.tuple #[iv S0.free.1, iv S0.free.2]) = .tuple #[.int .i64 6, .int .i64 0] by rw [s0_ok.2]; rfl]
  have H3 := Lib.hid (H2.out.below b3 (Nat.le_refl _)); have B3 := Lib.hid (below_more B2.out b3 (Nat.le_refl _)); clear b3 B2 H2
  go_wp2_with fail
  refine (longs_any 300 (by omega) _).mono ?_
  rintro e w4 ⟨rfl, b4⟩
  have H4 := Lib.hid (H3.out.below b4 (Nat.le_refl _)); have B4 := Lib.hid (below_more B3.out b4 (Nat.le_refl _)); clear b4 B3 H3
  go_wp2_with fail
  refine (s_do (H4.out.below ((Below.refl _ _).alloc (Nat.le_refl _) _) (Nat.le_refl _)) (by decide +kernel) _ sl1 (show PutsAt _ _ sl1 from Rd_new w4 [.string (one 97), .string (zs 300), .bool false, .string (one 98), .string (one 120), .bool false] 46 _ 2 rfl) (by decide)).mono ?_
  rintro e w5 ⟨r, hr, rfl, hs5, ho5⟩
  have hr0 := r1 hr
  subst hr0
  rw [show iv (S0.doA sl1 0).1 = .int .i64 0 by rw [s1_ok.1]; rfl]
  have H5 : Hid (Sess w5 bs bd bp bm S1) := Lib.hid hs5; have B5 := Lib.hid (below_only3 (B4.out.alloc B4.out.size _) ho5 (Nat.le_refl _) HF.out); clear hs5 ho5 B4 hr H4
  go_wp2_with fail
  refine (s_free H5.out).mono ?_
  rintro e w6 ⟨rfl, b6⟩
  rw [show (Value.tuple #[iv S1.free.1, iv S1.free.2]) = .tuple #[.int .i64 2, .int .i64 0] by rw [s1_ok.2.1]; rfl]
  have H6 := Lib.hid (H5.out.below b6 (Nat.le_refl _)); have B6 := Lib.hid (below_more B5.out b6 (Nat.le_refl _)); clear b6 B5 H5
  go_wp2_with fail
  refine (put_any (one 97) (one 121) _).mono ?_
  rintro e w7 ⟨v7, rfl, hp7, b7⟩
  have H7 := Lib.hid (H6.out.below b7 (Nat.le_refl _)); have HP7 : Hid (PutsAt w7 v7 sl2) := Lib.hid hp7; have B7 := Lib.hid (below_more B6.out b7 (Nat.le_refl _)); clear b7 B6 H6 hp7
  go_wp2_with fail
  refine (s_do H7.out (by decide +kernel) _ sl2 HP7.out (by decide)).mono ?_
  rintro e w8 ⟨r, hr, rfl, hs8, ho8⟩
  have hr0 := r2 hr
  subst hr0
  rw [show iv (S1.doA sl2 0).1 = .int .i64 0 by rw [s2_ok.1]; rfl]
  have H8 : Hid (Sess w8 bs bd bp bm S2) := Lib.hid hs8; have B8 := Lib.hid (below_only3 B7.out ho8 (Nat.le_refl _) HF.out); clear hs8 ho8 B7 hr H7 HP7
  go_wp2_with fail
  refine (s_free H8.out).mono ?_
  rintro e w9 ⟨rfl, b9⟩
  rw [show (Value.tuple #[iv S2.free.1, iv S2.free.2]) = .tuple #[.int .i64 3, .int .i64 0] by rw [s2_ok.2.1]; rfl]
  have H9 := Lib.hid (H8.out.below b9 (Nat.le_refl _)); have B9 := Lib.hid (below_more B8.out b9 (Nat.le_refl _)); clear b9 B8 H8
  go_wp2_with fail
  refine (put_any (one 99) (one 49) _).mono ?_
  rintro e w10 ⟨v10, rfl, hp10, b10⟩
  have H10 := Lib.hid (H9.out.below b10 (Nat.le_refl _)); have HP10 : Hid (PutsAt w10 v10 sl3) := Lib.hid hp10; have B10 := Lib.hid (below_more B9.out b10 (Nat.le_refl _)); clear b10 B9 H9 hp10
  go_wp2_with fail
  refine (s_do H10.out (by decide +kernel) _ sl3 HP10.out (by decide)).mono ?_
  rintro e w11 ⟨r, hr, rfl, hs11, ho11⟩
  have hr0 := r3 hr
  subst hr0
  rw [show iv (S2.doA sl3 0).1 = .int .i64 0 by rw [s3_ok.1]; rfl]
  have H11 : Hid (Sess w11 bs bd bp bm S3) := Lib.hid hs11; have B11 := Lib.hid (below_only3 B10.out ho11 (Nat.le_refl _) HF.out); clear hs11 ho11 B10 hr H10 HP10
  go_wp2_with fail
  refine (longs_any 800 (by omega) _).mono ?_
  rintro e w12 ⟨rfl, b12⟩
  have H12 := Lib.hid (H11.out.below b12 (Nat.le_refl _)); have B12 := Lib.hid (below_more B11.out b12 (Nat.le_refl _)); clear b12 B11 H11
  go_wp2_with fail
  refine (put_any (one 100) (zs 800) _).mono ?_
  rintro e w13 ⟨v13, rfl, hp13, b13⟩
  have H13 := Lib.hid (H12.out.below b13 (Nat.le_refl _)); have HP13 : Hid (PutsAt w13 v13 sl4) := Lib.hid hp13; have B13 := Lib.hid (below_more B12.out b13 (Nat.le_refl _)); clear b13 B12 H12 hp13
  go_wp2_with fail
  refine (s_do H13.out (by decide +kernel) _ sl4 HP13.out (by decide)).mono ?_
  rintro e w14 ⟨r, hr, rfl, hs14, ho14⟩
  have hr0 := r4 hr
  subst hr0
  rw [show iv (S3.doA sl4 0).1 = .int .i64 5 by rw [s4_ok.1]; rfl]
  have H14 : Hid (Sess w14 bs bd bp bm S4) := Lib.hid hs14; have B14 := Lib.hid (below_only3 B13.out ho14 (Nat.le_refl _) HF.out); clear hs14 ho14 B13 hr H13 HP13
  go_wp2_with fail
  refine (s_fail H14.out 767 (by omega) (by omega)).mono ?_
  rintro e w15 ⟨rfl, hs15, ho15⟩
  have H15 : Hid (Sess w15 bs bd bp bm S5) := Lib.hid hs15; have B15 := Lib.hid (below_only3 B14.out ho15 (Nat.le_refl _) HF.out); clear hs15 ho15 B14 H14
  go_wp2_with fail
  refine (put_any (one 97) (one 122) _).mono ?_
  rintro e w16 ⟨v16, rfl, hp16, b16⟩
  have H16 := Lib.hid (H15.out.below b16 (Nat.le_refl _)); have HP16 : Hid (PutsAt w16 v16 sl5) := Lib.hid hp16; have B16 := Lib.hid (below_more B15.out b16 (Nat.le_refl _)); clear b16 B15 H15 hp16
  go_wp2_with fail
  refine (s_do H16.out (by decide +kernel) _ sl5 HP16.out (by decide)).mono ?_
  rintro e w17 ⟨r, hr, rfl, hs17, ho17⟩
  have hr0 := r5 hr
  subst hr0
  rw [show iv (S5.doA sl5 0).1 = .int .i64 9 by rw [s6_ok.1]; rfl]
  have H17 : Hid (Sess w17 bs bd bp bm S6) := Lib.hid hs17; have B17 := Lib.hid (below_only3 B16.out ho17 (Nat.le_refl _) HF.out); clear hs17 ho17 B16 hr H16 HP16
  go_wp2_with fail
  refine (s_down H17.out).mono ?_
  rintro e w17' ⟨rfl, rfl⟩
  rw [show Value.bool S6.down = .bool true by rw [s6_ok.2.1]]
  go_wp2_with fail
  refine (s_restart H17.out).mono ?_
  rintro e w18 ⟨rfl, hs18, ho18⟩
  have H18 : Hid (Sess w18 bs bd bp bm S7) := Lib.hid hs18; have B18 := Lib.hid (below_only3 B17.out ho18 (Nat.le_refl _) HF.out); clear hs18 ho18 B17 H17
  go_wp2_with fail
  refine (s_get H18.out (one 97)).mono ?_
  rintro e w19 ⟨rfl, b19⟩
  rw [show (Value.tuple #[.string (S7.get (one 97)).1, .int .i64 (S7.get (one 97)).2]) = .tuple #[.string { data := #[121] }, .int .i64 0] by rw [s7_ok]; rfl]
  have H19 := Lib.hid (H18.out.below b19 (Nat.le_refl _)); have B19 := Lib.hid (below_more B18.out b19 (Nat.le_refl _)); clear b19 B18 H18
  go_wp2_with fail
  refine (s_fail H19.out 768 (by omega) (by omega)).mono ?_
  rintro e w20 ⟨rfl, hs20, ho20⟩
  have H20 : Hid (Sess w20 bs bd bp bm S8) := Lib.hid hs20; have B20 := Lib.hid (below_only3 B19.out ho20 (Nat.le_refl _) HF.out); clear hs20 ho20 B19 H19
  go_wp2_with fail
  refine (put_any (one 97) (one 122) _).mono ?_
  rintro e w21 ⟨v21, rfl, hp21, b21⟩
  have H21 := Lib.hid (H20.out.below b21 (Nat.le_refl _)); have HP21 : Hid (PutsAt w21 v21 sl5) := Lib.hid hp21; have B21 := Lib.hid (below_more B20.out b21 (Nat.le_refl _)); clear b21 B20 H20 hp21
  go_wp2_with fail
  refine (s_do H21.out (by decide +kernel) _ sl5 HP21.out (by decide)).mono ?_
  rintro e w22 ⟨r, hr, rfl, hs22, ho22⟩
  have hr0 := r5 hr
  subst hr0
  rw [show iv (S8.doA sl5 0).1 = .int .i64 0 by rw [s9_ok.1]; rfl]
  have H22 : Hid (Sess w22 bs bd bp bm S9) := Lib.hid hs22; have B22 := Lib.hid (below_only3 B21.out ho22 (Nat.le_refl _) HF.out); clear hs22 ho22 B21 hr H21 HP21
  go_wp2_with fail
  refine (s_get H22.out (one 97)).mono ?_
  rintro e w23 ⟨rfl, b23⟩
  rw [show (Value.tuple #[.string (S9.get (one 97)).1, .int .i64 (S9.get (one 97)).2]) = .tuple #[.string { data := #[122] }, .int .i64 0] by rw [s9_ok.2.1]; rfl]
  have H23 := Lib.hid (H22.out.below b23 (Nat.le_refl _)); have B23 := Lib.hid (below_more B22.out b23 (Nat.le_refl _)); clear b23 B22 H22
  go_wp2_with fail
  refine (put_any (one 98) ByteArray.empty _).mono ?_
  rintro e w24 ⟨v24, rfl, hp24, b24⟩
  have H24 := Lib.hid (H23.out.below b24 (Nat.le_refl _)); have HP24 : Hid (PutsAt w24 v24 sl6) := Lib.hid hp24; have B24 := Lib.hid (below_more B23.out b24 (Nat.le_refl _)); clear b24 B23 H23 hp24
  go_wp2_with fail
  refine (s_do H24.out (by decide +kernel) _ sl6 HP24.out (by decide)).mono ?_
  rintro e w25 ⟨r, hr, rfl, hs25, ho25⟩
  have hr0 := r6 hr
  subst hr0
  rw [show iv (S9.doA sl6 0).1 = .int .i64 9 by rw [s10_ok.1]; rfl]
  have H25 : Hid (Sess w25 bs bd bp bm S10) := Lib.hid hs25; have B25 := Lib.hid (below_only3 B24.out ho25 (Nat.le_refl _) HF.out); clear hs25 ho25 B24 hr H24 HP24
  go_wp2_with fail
  refine (s_restart H25.out).mono ?_
  rintro e w26 ⟨rfl, hs26, ho26⟩
  have H26 : Hid (Sess w26 bs bd bp bm S11) := Lib.hid hs26; have B26 := Lib.hid (below_only3 B25.out ho26 (Nat.le_refl _) HF.out); clear hs26 ho26 B25 H25
  go_wp2_with fail
  have hh := s_hurt H26.out 4 0 (by omega) (by rw [s11_ok.2]; omega) (by omega) 1 (by decide)
  rw [show bv 1 = .int .u8 1 from rfl] at hh
  rw [show ((4 : Nat) : Int) = 4 from rfl, show ((0 : Nat) : Int) = 0 from rfl] at hh
  refine hh.mono ?_
  clear hh
  rintro e w27 ⟨ho27, hor⟩
  obtain ⟨-, rfl, hs27⟩ := hor.resolve_left (fun ⟨a', f', h, _⟩ => by rw [s11_ok.1] at h; cases h)
  have H27 : Hid (Sess w27 bs bd bp bm S12) := Lib.hid hs27; have B27 := Lib.hid (below_only3 B26.out ho27 (Nat.le_refl _) HF.out); clear hs27 ho27 B26 hor H26
  go_wp2_with fail
  refine (s_get H27.out (one 98)).mono ?_
  rintro e w28 ⟨rfl, b28⟩
  rw [show (Value.tuple #[.string (S12.get (one 98)).1, .int .i64 (S12.get (one 98)).2]) = .tuple #[.string { data := #[] }, .int .i64 370] by rw [s12_ok.1]; rfl]
  have H28 := Lib.hid (H27.out.below b28 (Nat.le_refl _)); have B28 := Lib.hid (below_more B27.out b28 (Nat.le_refl _)); clear b28 B27 H27
  go_wp2_with fail
  refine (s_scrub H28.out).mono ?_
  rintro e w29 ⟨v29, rfl, b29, own29⟩
  rw [s12_ok.2.1] at own29
  have OWN29 := Lib.hid own29; clear own29
  rw [show (Value.tuple #[v29, iv S12.scrub.2]) = .tuple #[v29, .int .i64 0] by rw [s12_ok.2.1]; rfl]
  have H29 := Lib.hid (H28.out.below b29 (Nat.le_refl _)); have B29 := Lib.hid (below_more B28.out b29 (Nat.le_refl _)); clear b29 B28 H28
  go_wp2_with fail
  refine (put_any (one 98) (one 113) _).mono ?_
  rintro e w30 ⟨v30, rfl, hp30, b30⟩
  have H30 := Lib.hid (H29.out.below b30 (Nat.le_refl _)); have HP30 : Hid (PutsAt w30 v30 sl7) := Lib.hid hp30
  have OWN30 := Lib.hid (own_below OWN29.out b30 (Nat.le_refl _)); have B30 := Lib.hid (below_more B29.out b30 (Nat.le_refl _)); clear b30 B29 H29 hp30 OWN29
  go_wp2_with fail
  refine (s_do H30.out (by decide +kernel) _ sl7 HP30.out (by decide)).mono ?_
  rintro e w31 ⟨r, hr, rfl, hs31, ho31⟩
  have hr0 := r7 hr
  subst hr0
  rw [show iv (S12.doA sl7 0).1 = .int .i64 0 by rw [s13_ok.1]; rfl]
  have H31 : Hid (Sess w31 bs bd bp bm S13) := Lib.hid hs31
  have OWN31 := (let ⟨_, C, hD, _⟩ := H30.out; Lib.hid (own_only3 OWN30.out hD ho31 (by decide) (by decide))); have B31 := Lib.hid (below_only3 B30.out ho31 (Nat.le_refl _) HF.out); clear hs31 ho31 B30 hr H30 HP30 OWN30
  go_wp2_with fail
  refine (s_scrub H31.out).mono ?_
  rintro e w32 ⟨v32, rfl, b32, own32⟩
  rw [s13_ok.2] at own32
  have OWN32 := Lib.hid own32; clear own32
  rw [show (Value.tuple #[v32, iv S13.scrub.2]) = .tuple #[v32, .int .i64 0] by rw [s13_ok.2]; rfl]
  have OWN31' := Lib.hid (own_below OWN31.out b32 (Nat.le_refl _)); have B32 := Lib.hid (below_more B31.out b32 (Nat.le_refl _)); clear b32 B31 H31 OWN31
  obtain ⟨A32, c32, rfl, -⟩ := Rd_own OWN32.out
  clear OWN32
  go_wp2_with fail
  refine (sameInts_any _ _ _ [4] [4] ?_ ?_ (by decide)).mono ?_
  · exact (Rd_own OWN31'.out).below ((Below.refl _ _).alloc (Nat.le_refl _) _) (Nat.le_refl _)
  · exact Rd_new _ [.int .i64 4] 3 _ 1 rfl
  rintro e w33 ⟨rfl, b33⟩
  have B33 := Lib.hid (below_more (B32.out.alloc B32.out.size _) b33 (Nat.le_refl _)); clear b33 B32
  go_wp2
  go_ret
  exact ⟨rfl, B33.out⟩
end Go.Proofs.Ytcgapfmdpchemaa
