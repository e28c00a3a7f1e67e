/- The walk of the reference's Damage. -/
import Derived.Test.YtcgapfmdpchemaaRefD
namespace Go.Proofs.Ytcgapfmdpchemaa
open Go.RowKit
theorem hflat_set (hs : List (Nat × Nat × UInt8)) : ∀ (i : Nat) (hi : i < hs.length) (b : UInt8), (hs.set i (hs[i].1, hs[i].2.1, b)).flatMap hCells = (hs.flatMap hCells).set (i * 3 + 2) (bv b) := by
  induction hs with
  | nil => intro i hi; cases hi
  | cons p hs ih =>
    intro i hi b
    cases i with
    | zero => simp [hCells]
    | succ i =>
      rw [List.set_cons_succ, List.flatMap_cons, List.flatMap_cons, List.set_append_right _ _ (by show 3 ≤ _; omega), show (hCells p).length = 3 from rfl, show (i + 1) * 3 + 2 - 3 = i * 3 + 2 by omega]
      congr 1
      exact ih i (by simpa using hi) b
section
variable {B eb m : Nat} {A : AD} {hs : List (Nat × Nat × UInt8)} {ve vi vh v : Value} {ps : List (EA × Value)} {w : World}
theorem HRow.flip {g cap : Nat} (h : HRow w B (.slice (some ⟨g, 0, none⟩) hs.length cap) hs) {i : Nat} (hi : i < hs.length) (b : UInt8) : HRow (w.setCell ⟨g, i * 3 + 2, none⟩ (bv b)) B (.slice (some ⟨g, 0, none⟩) hs.length cap) (hs.set i (hs[i].1, hs[i].2.1, b)) := by
  rcases h with ⟨h1, _⟩ | ⟨g', cap', cur, h1, h2, h3, h4, h5, h6, h7⟩
  · cases h1
  · cases h1
    refine .inr ⟨g, cap, cur.setIfInBounds (i * 3 + 2) (bv b), by rw [List.length_set], h2, heap_setCell_same w g _ _ 148 _ h3, by rw [List.length_set]; exact h4, h5, by rw [Array.size_setIfInBounds]; exact h6, ?_⟩
    rw [List.length_set, hflat_set hs i hi, ← h7, Array.toList_setIfInBounds, List.take_set]
theorem set_keys {i q a : Nat} (hi : i < hs.length) (hq : hs[i].1 = q) (b : UInt8) : (hs.set i (q, a, b)).map (·.1) = hs.map (·.1) := by
  rw [List.map_set]
  show (hs.map (·.1)).set i q = _
  have : q = (hs.map (·.1))[i]'(by simpa using hi) := by simp [hq]
  rw [this, List.set_getElem_self]
theorem set_nd {i q a : Nat} (h : hs.Pairwise fun x y => x.1 ≠ y.1) (hi : i < hs.length) (hq : hs[i].1 = q) (b : UInt8) : (hs.set i (q, a, b)).Pairwise fun x y => x.1 ≠ y.1 := by
  have := (List.pairwise_map (f := fun x : Nat × Nat × UInt8 => x.1) (R := (· ≠ ·))).2 h
  rw [← set_keys hi hq b (a := a)] at this
  exact List.pairwise_map.1 this
theorem set_look {i q a : Nat} (h : hs.Pairwise fun x y => x.1 ≠ y.1) (hi : i < hs.length) (hq : hs[i].1 = q) (b : UInt8) : lookH (hs.set i (q, a, b)) = hurtF (lookH hs) q a b := by
  funext p
  unfold hurtF
  by_cases hp : p = q
  · rw [if_pos hp, hp]
    rw [lookH_at (set_nd h hi hq b) (i := i) (by simpa using hi) (by simp)]
    simp
  · rw [if_neg hp]
    unfold lookH
    have he : hs = hs.take i ++ hs[i] :: hs.drop (i + 1) := by rw [List.getElem_cons_drop, List.take_append_drop]
    rw [List.set_eq_take_append_cons_drop, if_pos hi]
    conv => rhs; rw [he]
    rw [List.find?_append, List.find?_append, List.find?_cons, List.find?_cons, hq]
    simp [show ¬ q = p from fun h => hp h.symm]
theorem app_look {q a : Nat} {b : UInt8} (h : ∀ x ∈ hs, x.1 ≠ q) : lookH (hs ++ [(q, a, b)]) = hurtF (lookH hs) q a b := by
  funext p
  unfold hurtF
  by_cases hp : p = q
  · rw [if_pos hp, hp]
    have := lookH_none h
    unfold lookH at this ⊢
    rw [List.find?_append]
    have h2 : (hs.find? fun x => decide (x.1 = q)) = none := by simpa using this
    rw [h2]
    simp
  · rw [if_neg hp]
    unfold lookH
    rw [List.find?_append]
    simp [show ¬ q = p from fun h => hp h.symm]
theorem app_nd {q a : Nat} {b : UInt8} (hn : hs.Pairwise fun x y => x.1 ≠ y.1) (h : ∀ x ∈ hs, x.1 ≠ q) : (hs ++ [(q, a, b)]).Pairwise fun x y => x.1 ≠ y.1 := by
  refine List.pairwise_append.2 ⟨hn, List.pairwise_singleton _ _, fun x hx y hy => ?_⟩
  rw [List.mem_singleton] at hy
  subst hy
  exact h x hx
theorem lst_app_h {ops : Array Oper} {rest : List Oper} {o : Oper} {a : Act} {Q : Exit → Act → World → Prop} {hs1 hs2 : List (Nat × Nat × UInt8)} (hgd : o.guard = none) (s x : Operand)
    (ho : o.op = .call { callee := .builtin .append, args := #[s, x], argTypes := #[113, 113] })
    (hs : a.eval s = v) (h : HRow w B v hs1) {vx : Value} (hx : a.eval x = vx) (hrd : Rd w vx hs2.length (hs2.flatMap hCells)) (hn : hs1.length + hs2.length ≤ 100000) (hB : B ≤ w.heap.size)
    (hk : ∀ v' w', HRow w' B v' (hs1 ++ hs2) → w.grownBy w' v.ownBlock → wpList Try.prog ops Q rest (a.put o.dst v') w') : wpList Try.prog ops Q (o :: rest) a w :=
  wpList_plain hgd fun _ hK => op_app_h s x ho hs h hx hrd hn hB fun v' w' h1 h2 => hK _ _ (hk v' w' h1 h2)
set_option maxRecDepth 1000000 in
set_option maxHeartbeats 2000000 in
theorem rdamage_bad (w : World) (h : RIs w B eb A m) (x y : Int) (f : UInt8) (hb : x < 2 ∨ (A.n : Int) ≤ x ∨ y < 0 ∨ 256 ≤ y ∨ f = 0) :
    Calls Try.prog 54 #[.pointer (some ⟨eb, 0, none⟩), .int .i64 x, .int .i64 y, bv f] w fun e w' => e = .returned (.int .i64 2) ∧ w = w' := by
  have c0 := h.c.1
  clear h
  unfold bv
  by_cases h1 : x < 2
  · go_enter Try.func54, Try.ntmps54
    go_wp2
    go_ret
    exact ⟨rfl, rfl⟩
  · by_cases h2 : (A.n : Int) ≤ x
    · go_enter Try.func54, Try.ntmps54
      go_wp2
      go_ret
      exact ⟨rfl, rfl⟩
    · by_cases h3 : y < 0
      · go_enter Try.func54, Try.ntmps54
        go_wp2
        go_ret
        exact ⟨rfl, rfl⟩
      · by_cases h4 : 256 ≤ y
        · go_enter Try.func54, Try.ntmps54
          go_wp2
          go_ret
          exact ⟨rfl, rfl⟩
        · have h5 : (f.toNat : Int) = 0 := by
            rcases hb with h | h | h | h | rfl
            · exact absurd h h1
            · exact absurd h h2
            · exact absurd h h3
            · exact absurd h h4
            · rfl
          rw [h5]
          go_enter Try.func54, Try.ntmps54
          go_wp2
          go_ret
          exact ⟨rfl, rfl⟩
theorem damage_none {q a : Nat} {f : UInt8} (hb : ¬ ((q : Int) < 2 ∨ (A.n : Int) ≤ (q : Int) ∨ (a : Int) < 0 ∨ 256 ≤ (a : Int) ∨ f = 0)) (h : A.hurts q = none) : A.damage q a f = (0, A.hurt q a f) := by
  unfold AD.damage
  rw [if_neg hb, Int.toNat_natCast, Int.toNat_natCast, h]
theorem damage_far {q a a' : Nat} {f g : UInt8} (hb : ¬ ((q : Int) < 2 ∨ (A.n : Int) ≤ (q : Int) ∨ (a : Int) < 0 ∨ 256 ≤ (a : Int) ∨ f = 0)) (h : A.hurts q = some (a', g)) (hne : a' ≠ a) : A.damage q a f = (8, A) := by
  unfold AD.damage
  rw [if_neg hb, Int.toNat_natCast, Int.toNat_natCast, h]
  dsimp only
  rw [if_neg hne]
theorem damage_near {q a : Nat} {f g : UInt8} (hb : ¬ ((q : Int) < 2 ∨ (A.n : Int) ≤ (q : Int) ∨ (a : Int) < 0 ∨ 256 ≤ (a : Int) ∨ f = 0)) (h : A.hurts q = some (a, g)) : A.damage q a f = (0, { A with hurts := if g = f then healF (hurtF A.hurts q a (g ^^^ f)) q else hurtF A.hurts q a (g ^^^ f) }) := by
  unfold AD.damage
  rw [if_neg hb, Int.toNat_natCast, Int.toNat_natCast, h]
  dsimp only
  rw [if_pos rfl]
  unfold AD.hurt
  rw [h, heal_hurt]
  rfl
set_option maxRecDepth 1000000 in
set_option maxHeartbeats 2000000 in
theorem rdamage_ok (w : World) (h : RIs w B eb A m) (hB : B ≤ w.heap.size) (hm : m ≤ 4000) (q a : Nat) (h2 : 2 ≤ q) (hq : q < A.n) (hqb : q ≤ 100000) (ha : a < 256) (f : UInt8) (hf : f ≠ 0) :
    Calls Try.prog 54 #[.pointer (some ⟨eb, 0, none⟩), .int .i64 q, .int .i64 a, bv f] w fun e w' => e = .returned (.int .i64 (A.damage q a f).1) ∧ RIs w' B eb (A.damage q a f).2 (m + 1) ∧ OnlyR B w w' := by
  obtain ⟨hs, ve, vi, vh, ps, h, hmm⟩ := h
  have HM := Lib.hid hmm; have HR := Lib.hid h
  obtain ⟨c0, -, -, -, -, c5⟩ := h.c
  have f5 := h.fz 5
  have h1 : ¬ (q : Int) < 2 := by omega
  have hn : ¬ (A.n : Int) ≤ (q : Int) := by omega
  have h3 : ¬ (a : Int) < 0 := by omega
  have h4 : ¬ (256 : Int) ≤ (a : Int) := by omega
  have h5 : ¬ (f.toNat : Int) = 0 := by
    intro h0
    have h6 : f.toNat = 0 := by omega
    exact hf (UInt8.toNat_inj.1 h6)
  have h5b : ((f.toNat : Int) == 0) = false := by simpa using h5
  have HBAD := Lib.hid (show ¬ ((q : Int) < 2 ∨ (A.n : Int) ≤ (q : Int) ∨ (a : Int) < 0 ∨ 256 ≤ (a : Int) ∨ f = 0) from fun hb => by
    rcases hb with h | h | h | h | h
    · omega
    · omega
    · omega
    · omega
    · exact hf h)
  clear h hmm
  unfold bv
  go_enter Try.func54, Try.ntmps54
  go_wp2_with fail
  refine (rfind_any w HR.out q).mono ?_
  rintro e w1 ⟨⟨z, rfl, hz⟩, rfl⟩
  rcases hz with ⟨i, hi, rfl, hiq⟩ | ⟨rfl, hno⟩
  · obtain ⟨g, cap, hv, hcap⟩ := HR.out.hu.some_ (Nat.lt_of_le_of_lt (Nat.zero_le _) hi)
    subst hv
    obtain ⟨g2, c2, he, h0, ha1, hb1⟩ := HR.out.hcells hi
    cases he
    have hlook : A.hurts q = some hs[i].2 := by rw [HR.out.eqh]; exact lookH_at HR.out.nd hi hiq
    have hii : (i : Int) < (hs.length : Int) := by omega
    have h0i : ¬ (i : Int) < 0 := by omega
    by_cases hfar : hs[i].2.1 = a
    case neg =>
      have hres := damage_far HBAD.out (show A.hurts q = some (hs[i].2.1, hs[i].2.2) from hlook) hfar
      have HRES := Lib.hid hres
      have hne : ((hs[i].2.1 : Int) != (a : Int)) = true := by rw [bne_iff_ne]; omega
      clear hres hlook hfar hiq hb1 h0
      generalize hs[i].2.1 = a' at *
      go_wp2
      go_ret
      rw [HRES.out]
      exact ⟨rfl, ⟨_, _, _, _, _, HR.out, Nat.le_succ_of_le HM.out⟩, OnlyR.refl _ _⟩
    have hne : ((a : Int) != (a : Int)) = false := by simp
    have hres := damage_near (g := hs[i].2.2) HBAD.out (show A.hurts q = some (a, hs[i].2.2) by rw [hlook, ← hfar])
    have HRES := Lib.hid hres
    have hfl := fun b => HR.out.hu.flip hi b
    rw [show hs[i].1 = q from hiq, show hs[i].2.1 = a from hfar] at hfl
    have HFL := Lib.hid hfl
    have HND := Lib.hid (fun b => set_nd (a := a) HR.out.nd hi hiq b)
    have HLK := Lib.hid (fun b => set_look (a := a) HR.out.nd hi hiq b)
    clear hres hlook hfl
    rw [hfar] at ha1
    generalize hs[i].2.2 = fl at *
    have hxor := bits_xor_u8 fl f
    obtain ⟨cur, hgr, hgB⟩ : ∃ cur, w.heap[g]? = some (.cells cur 148 (0, 0)) ∧ B ≤ g := by
      rcases HR.out.hu with ⟨h, _⟩ | ⟨g', cap', cur, he, hgB, hrow, _⟩
      · cases h
      · cases he
        exact ⟨cur, hrow, hgB⟩
    have hfz : w.frozen? ⟨g, i * 3 + 2, none⟩ = false := frozen_of_row _ _ _ _ _ hgr
    have HGR := Lib.hid hgr; have HGB := Lib.hid hgB; clear hgr hgB
    have hbv : bv fl = .int .u8 (fl.toNat : Int) := rfl
    rw [hbv] at hb1
    have HDD := Lib.hid (show w.heap[eb]? = some (.cells #[.int .i64 A.n, .int .i64 A.fuse, .bool A.down, ve, vi, .slice (some ⟨g, 0, none⟩) hs.length cap] 115 (0, 0)) from HR.out.d)
    clear hfar hiq h0 hi
    go_wp2
    go_region
    have hx8 : bv (fl ^^^ f) = .int .u8 ((fl.toNat ^^^ f.toNat : Nat) : Int) := by simp [bv]
    have hr1 : RAt (w.setCell ⟨g, i * 3 + 2, none⟩ (bv (fl ^^^ f))) B eb { A with hurts := hurtF A.hurts q a (fl ^^^ f) } (hs.set i (q, a, fl ^^^ f)) ve vi (.slice (some ⟨g, 0, none⟩) hs.length cap) ps :=
      HR.out.turn (OnlyR.set HGR.out (.inr rfl) HGB.out _ _) rfl rfl ((heap_setCell_other w ⟨g, i * 3 + 2, none⟩ eb _ (by
        rintro rfl
        have h := HGR.out
        rw [HDD.out] at h
        simp at h)).trans HDD.out) (by have := HFL.out (fl ^^^ f); exact this) (HND.out _) (by rw [HLK.out, ← HR.out.eqh])
    have ho1 := (OnlyR.set (B := B) HGR.out (.inr rfl) HGB.out (i * 3 + 2) (bv (fl ^^^ f))).trans (OnlyR.drew _)
    have hc1 : (w.setCell ⟨g, i * 3 + 2, none⟩ (bv (fl ^^^ f))).drew.cell? ⟨g, i * 3 + 2, none⟩ = some (bv (fl ^^^ f)) := by
      have hlt : i * 3 + 2 < cur.size := by
        have h := hb1
        rw [cell_of_row _ _ _ _ _ _ HGR.out] at h
        exact (Array.getElem?_eq_some_iff.1 h).1
      show (w.setCell ⟨g, i * 3 + 2, none⟩ (bv (fl ^^^ f))).cell? ⟨g, i * 3 + 2, none⟩ = _
      rw [cell_of_row _ _ _ _ _ _ (heap_setCell_same w g _ _ 148 _ HGR.out)]
      simp [hlt]
    have c51 := hr1.c.2.2.2.2.2
    have c51' : (w.setCell ⟨g, i * 3 + 2, none⟩ (bv (fl ^^^ f))).drew.cell? ⟨eb, 5, none⟩ = some (.slice (some ⟨g, 0, none⟩) hs.length cap) := c51
    have HR1 : Hid (RIs (w.setCell ⟨g, i * 3 + 2, none⟩ (bv (fl ^^^ f))).drew B eb { A with hurts := hurtF A.hurts q a (fl ^^^ f) } m) := Lib.hid ⟨_, _, _, _, _, hr1.below ((Below.refl _ _).drew) (Nat.le_refl _), by rw [List.length_set]; exact HM.out⟩
    have HO1 := Lib.hid ho1
    have HBW1 := Lib.hid (show B ≤ (w.setCell ⟨g, i * 3 + 2, none⟩ (bv (fl ^^^ f))).drew.heap.size from Nat.le_trans hB ho1.size)
    clear hr1 ho1 c51 HFL HND HLK hb1 hfz ha1 c5 f5 c0 hxor
    rw [hx8] at hc1 c51' HR1 HO1 HBW1
    generalize (w.setCell ⟨g, i * 3 + 2, none⟩ (.int .u8 ((fl.toNat ^^^ f.toNat : Nat) : Int))).drew = w1 at *
    by_cases hff : fl = f
    · subst hff
      have hz : ((fl.toNat ^^^ fl.toNat : Nat) : Int) = 0 := by rw [Nat.xor_self]; rfl
      rw [hz] at hc1
      have HRS := Lib.hid (show A.damage q a fl = (0, { A with hurts := healF (hurtF A.hurts q a (fl ^^^ fl)) q }) by rw [HRES.out, if_pos rfl])
      clear HRES hz hbv hx8
      go_wp2_with fail
      refine (rheal_any w1 HR1.out HBW1.out (by omega) q).mono ?_
      rintro e w2 ⟨rfl, hr2, ho2⟩
      have HR2 := Lib.hid hr2; have HO2 := Lib.hid (HO1.out.trans ho2); clear hr2 ho2 hc1 c51'
      go_wp2
      go_ret
      rw [HRS.out]
      exact ⟨rfl, HR2.out.mono (Nat.le_succ _), HO2.out⟩
    · have hz : (((fl.toNat ^^^ f.toNat : Nat) : Int) == 0) = false := by
        rw [beq_eq_false_iff_ne]
        intro h0
        apply hff
        have h1 : fl.toNat ^^^ f.toNat = 0 := by omega
        have h2 : (fl ^^^ f).toNat = 0 := by rw [UInt8.toNat_xor]; exact h1
        have h3 : fl ^^^ f = 0 := UInt8.toNat_inj.1 h2
        have h4 : fl ^^^ f ^^^ f = 0 ^^^ f := by rw [h3]
        rwa [UInt8.xor_assoc, UInt8.xor_self, UInt8.xor_zero, UInt8.zero_xor] at h4
      have HRS := Lib.hid (show A.damage q a f = (0, { A with hurts := hurtF A.hurts q a (fl ^^^ f) }) by rw [HRES.out, if_neg hff])
      clear HRES hbv hx8
      go_wp2
      go_ret
      rw [HRS.out]
      exact ⟨rfl, HR1.out.mono (Nat.le_succ _), HO1.out⟩
  · have hnone : A.hurts q = none := by rw [HR.out.eqh]; exact lookH_none hno
    have hres : A.damage q a f = (0, { A with hurts := hurtF A.hurts q a f }) := by
      rw [damage_none HBAD.out hnone]
      unfold AD.hurt
      rw [hnone]
      show (0, ({ A with hurts := if (0 : UInt8) = f then _ else hurtF A.hurts q a (0 ^^^ f) } : AD)) = _
      rw [if_neg fun e => hf e.symm, UInt8.zero_xor]
    have HRES := Lib.hid hres
    have HE := Lib.hid (show hurtF A.hurts q a f = lookH (hs ++ [(q, a, f)]) by rw [HR.out.eqh]; exact (app_look hno).symm)
    have HN := Lib.hid (app_nd (a := a) (b := f) HR.out.nd hno)
    clear hres hnone hno HBAD
    have b0 : Below w.heap.size w (w.alloc (.cells #[.int .i64 (q : Int), .int .i64 (a : Int), .int .u8 (f.toNat : Int)] 148)) := (Below.refl _ w).alloc (Nat.le_refl _) _
    have HR0 := Lib.hid (HR.out.below b0 (Nat.le_refl _))
    have HNEW := Lib.hid (show Rd (w.alloc (.cells #[.int .i64 (q : Int), .int .i64 (a : Int), .int .u8 (f.toNat : Int)] 148)) (.slice (some ⟨w.heap.size, 0, none⟩) 1 1) [(q, a, f)].length ([(q, a, f)].flatMap hCells) from Rd_new w (hCells (q, a, f)) 148 _ 1 rfl)
    have HBB := Lib.hid (show B ≤ (w.alloc (.cells #[.int .i64 (q : Int), .int .i64 (a : Int), .int .u8 (f.toNat : Int)] 148)).heap.size by rw [World.size_alloc]; omega)
    have HLN := Lib.hid (show hs.length + [(q, a, f)].length ≤ 100000 by have := HM.out; show hs.length + 1 ≤ _; omega)
    have HO0 := Lib.hid (OnlyR.of_below (B := B) b0)
    have hsz : w.heap.size + 1 = (w.alloc (.cells #[.int .i64 (q : Int), .int .i64 (a : Int), .int .u8 (f.toNat : Int)] 148)).heap.size := by simp
    obtain ⟨Av, cv, hvh, -⟩ := HR.out.hu.form
    subst hvh
    clear b0
    go_wp2_with (at_builtin; refine lst_app_h rfl _ _ rfl rfl HR0.out.hu rfl HNEW.out HLN.out HBB.out ?_)
    intro v' w2 hrow hg
    obtain ⟨A3, n3, c3, rfl⟩ := hrow.any
    have d2 := (hg.block eb (Array.getElem?_eq_some_iff.1 HR0.out.d).1 (HR0.out.hu.far HR0.out.d (by decide))).trans HR0.out.d
    have c52 : w2.cell? ⟨eb, 5, none⟩ = some (.slice Av hs.length cv) := by rw [cell_of_row _ _ _ _ _ _ d2]; rfl
    have f52 : w2.frozen? ⟨eb, 5, none⟩ = false := frozen_of_row _ _ _ _ _ d2
    have ho := HO0.out.trans (HR0.out.hu.grown hg)
    have ho2 := OnlyR.set (B := B) d2 (.inl rfl) HR.out.lo 5 (.slice A3 n3 c3)
    have hfin : RAt (w2.setCell ⟨eb, 5, none⟩ (.slice A3 n3 c3)) B eb { A with hurts := hurtF A.hurts q a f } (hs ++ [(q, a, f)]) ve vi (.slice A3 n3 c3) ps :=
      HR.out.turn (ho.trans ho2) rfl rfl (by rw [heap_setCell_same w2 eb 5 _ 115 _ d2]; rfl) (hrow.set d2 (by decide) 5 _) HN.out HE.out
    have HFIN := Lib.hid hfin; have HOF := Lib.hid (ho.trans ho2)
    clear hrow hg d2 ho ho2 hfin
    go_wp2
    go_ret
    rw [HRES.out]
    exact ⟨rfl, ⟨_, _, _, _, _, HFIN.out, by have := HM.out; rw [List.length_append]; show hs.length + 1 ≤ _; omega⟩, HOF.out⟩
end
end Go.Proofs.Ytcgapfmdpchemaa
/- The walks of the reference's NewDisk, Open, wrong and at. -/
namespace Go.Proofs.Ytcgapfmdpchemaa
open Go.RowKit
section
variable {B eb m : Nat} {A : AD}
theorem rdamage_any (w : World) (h : RIs w B eb A m) (hB : B ≤ w.heap.size) (hm : m ≤ 4000) (hn : A.n ≤ 4096) (x y : Int) (f : UInt8) :
    Calls Try.prog 54 #[.pointer (some ⟨eb, 0, none⟩), .int .i64 x, .int .i64 y, bv f] w fun e w' => e = .returned (.int .i64 (A.damage x y f).1) ∧ RIs w' B eb (A.damage x y f).2 (m + 1) ∧ OnlyR B w w' := by
  by_cases hb : x < 2 ∨ (A.n : Int) ≤ x ∨ y < 0 ∨ 256 ≤ y ∨ f = 0
  · have hdm : A.damage x y f = (2, A) := by unfold AD.damage; rw [if_pos hb]
    rw [hdm]
    refine (rdamage_bad w h x y f hb).mono ?_
    rintro e w' ⟨rfl, rfl⟩
    exact ⟨rfl, h.mono (Nat.le_succ _), OnlyR.refl _ _⟩
  · obtain ⟨q, rfl⟩ : ∃ q : Nat, x = q := ⟨x.toNat, by omega⟩
    obtain ⟨a, rfl⟩ : ∃ a : Nat, y = a := ⟨y.toNat, by omega⟩
    have hf : f ≠ 0 := fun h0 => hb (by simp [h0])
    exact rdamage_ok w h hB hm q a (by omega) (by omega) (by omega) (by omega) f hf
set_option maxHeartbeats 400000 in
theorem rnew_bad (w : World) (n : Int) (h : n < 4 ∨ 4096 < n) : Calls Try.prog 24 #[.int .i64 n] w fun e w' => e = .returned (.tuple #[.pointer none, .int .i64 2]) ∧ w = w' := by
  by_cases h4 : n < 4
  · go_enter Try.func24, Try.ntmps24
    go_wp2
    go_ret2
    exact ⟨rfl, rfl⟩
  · have h5 : 4096 < n := by omega
    go_enter Try.func24, Try.ntmps24
    go_wp2
    go_ret2
    exact ⟨rfl, rfl⟩
set_option maxHeartbeats 400000 in
theorem rnew_ok (w : World) (n : Nat) (h4 : 4 ≤ n) (h5 : n ≤ 4096) : Calls Try.prog 24 #[.int .i64 n] w fun e w' => ∃ eb, e = .returned (.tuple #[.pointer (some ⟨eb, 0, none⟩), .int .i64 0]) ∧ RIs w' w.heap.size eb (newA n) 0 ∧ Below w.heap.size w w' := by
  have h1 : ¬ (n : Int) < 4 := by omega
  have h2 : ¬ (4096 : Int) < (n : Int) := by omega
  go_enter Try.func24, Try.ntmps24
  go_wp2
  go_ret2
  refine ⟨_, rfl, ⟨[], .slice none 0 0, .slice none 0 0, .slice none 0 0, [], ⟨heap_alloc_new w _, Nat.le_refl _, ⟨TRd_nil _ _, fun p hp => (by cases hp)⟩, rfl, TRd_nil _ _, .inl ⟨rfl, rfl⟩, List.Pairwise.nil, rfl⟩, Nat.le_refl _⟩, (Below.refl _ w).alloc (Nat.le_refl _) _⟩
set_option maxHeartbeats 1000000 in
theorem ropen_any (w : World) (h : RIs w B eb A m) (hn : A.n ≠ 0) : Calls Try.prog 25 #[.pointer (some ⟨eb, 0, none⟩)] w fun e w' => Below w.heap.size w w' ∧
      ((A.state 0 = 0 ∧ ∃ et, e = .returned (.tuple #[.pointer (some ⟨et, 0, none⟩), .int .i64 0]) ∧ RSt w' et eb) ∨
       (A.state 0 ≠ 0 ∧ e = .returned (.tuple #[.pointer none, iv (A.state 0)]))) := by
  have c0 := h.c.1
  have hnb : ((A.n : Int) == 0) = false := by rw [beq_eq_false_iff_ne]; omega
  have b0 : Below w.heap.size w (w.alloc (.cells #[.pointer (some ⟨eb, 0, none⟩)] 117)) := (Below.refl _ w).alloc (Nat.le_refl _) _
  have H0 := Lib.hid (h.below b0 (Nat.le_refl _)); have B0 := Lib.hid b0
  have HS := Lib.hid (show RSt (w.alloc (.cells #[.pointer (some ⟨eb, 0, none⟩)] 117)) w.heap.size eb from heap_alloc_new w _)
  clear h b0
  go_enter Try.func25, Try.ntmps25
  go_wp2_with fail
  refine (show Calls Try.prog 46 #[.pointer (some ⟨w.heap.size, 0, none⟩), .int .i64 0] _ _ from rstate_any _ HS.out H0.out 0).mono ?_
  rintro e w1 ⟨rfl, b1⟩
  have HS1 := Lib.hid (HS.out.below b1 (Nat.le_refl _)); have B1 := Lib.hid (below_more B0.out b1 (Nat.le_refl _)); clear b1
  by_cases hst : A.state 0 = 0
  · have HST := Lib.hid hst
    rw [hst]
    clear hst
    go_wp2
    go_ret2
    exact ⟨B1.out, .inl ⟨HST.out, _, rfl, HS1.out⟩⟩
  · have hsi : ¬ ((A.state 0 : Nat) : Int) = 0 := by omega
    have HST := Lib.hid hst; clear hst
    go_wp2
    go_ret2
    exact ⟨B1.out, .inr ⟨HST.out, rfl⟩⟩
end
theorem bytesLess_iff (a b : List UInt8) : Op.bytesLess a b = true ↔ a < b := by
  induction a generalizing b with
  | nil => cases b <;> simp [Op.bytesLess]
  | cons x a ih =>
    cases b with
    | nil => simp [Op.bytesLess]
    | cons y b => simp [Op.bytesLess, List.cons_lt_cons_iff, ih]
theorem less_name (a b : ByteArray) : Op.bytesLess a.toList b.toList = decide (nlt a b) := by
  rw [Bool.eq_iff_iff, bytesLess_iff, decide_eq_true_iff, ByteArray.toList_eq, ByteArray.toList_eq]
  rfl
theorem eq_name (a b : ByteArray) : (a.toList == b.toList) = decide (a = b) := by
  rw [Bool.eq_iff_iff, beq_iff_eq, decide_eq_true_iff, ByteArray.toList_eq, ByteArray.toList_eq]
  exact ⟨ba_ext, fun h => by rw [h]⟩
def edes (ps : List (EA × Value)) : List DE := (eas ps).map EA.de
set_option maxRecDepth 1000000 in
set_option maxHeartbeats 1000000 in
theorem rat_any (w : World) (v : Value) (ps : List (EA × Value)) (h : REnts w v ps) (hs : Asc (edes ps)) (n : ByteArray) : Calls Try.prog 72 #[v, .string n] w fun e w' => e = .returned (.tuple #[.int .i64 (atB (edes ps) n), .bool (isB (edes ps) n)]) ∧ ∃ k, w' = w.drewN k := by
  obtain ⟨A, c, rfl, hnc, hcm, -⟩ := id h.1
  have hl63 : ps.length ≤ 9223372036854775807 := by unfold maxLen at hcm; omega
  have H := Lib.hid h; have HS := Lib.hid hs; clear h hs hcm
  go_enter Try.func72, Try.ntmps72
  go_wp2
  go_loopw [6] (fun i wr => ∃ k : Nat, k ≤ ps.length ∧ i = .int .i64 k ∧ wr = w ∧ Hid (∀ j, (h : j < ps.length) → j < k → nlt ps[j].1.name n)) (fun i _ => ps.length - (intOf i).toNat)
  case atStart => exact ⟨0, by omega, rfl, rfl, Lib.hid fun j _ hj => by omega⟩
  case round =>
    obtain ⟨k, hk, rfl, rfl, HB⟩ := hrel
    have hlen : (edes ps).length = ps.length := by simp [edes, eas]
    have hnm : ∀ j (hj : j < ps.length), ((edes ps)[j]'(by rw [hlen]; exact hj)).name = ps[j].1.name := fun j hj => by simp [edes, eas, EA.de]
    by_cases hlt : k < ps.length
    · have hki : (k : Int) < (ps.length : Int) := by omega
      obtain ⟨b, off, c', he, h0, -, -⟩ := H.out.cells hlt
      cases he
      by_cases hless : nlt ps[k].1.name n
      · have hls : Op.bytesLess ps[k].1.name.toList n.toList = true := by rw [less_name, decide_eq_true hless]
        have HN : Hid (∀ j, (h : j < ps.length) → j < k + 1 → nlt ps[j].1.name n) := Lib.hid fun j hj hjk => by
          rcases Nat.lt_succ_iff_lt_or_eq.1 hjk with hlt | rfl
          · exact HB.out j hj hlt
          · exact hless
        clear HB hless hnm hlen
        generalize ps[k].1.name = nm at *
        go_wp2
        go_roundw
        case rel => exact ⟨k + 1, by omega, by go_num, trivial, HN⟩
        case measure => simp [intOf]; omega
      · have hls : Op.bytesLess ps[k].1.name.toList n.toList = false := by rw [less_name, decide_eq_false hless]
        have hsp := find_spec HS.out (name := n) (i := k) (by rw [hlen]; exact hk) (fun j hj hjk => by rw [hnm j (by rw [← hlen]; exact hj)]; exact HB.out j (by rw [← hlen]; exact hj) hjk) (fun j hj hkj hlj => by
          have h1 := nlt_of_le HS.out (name := n) (i := k) (j := j) (by rw [hlen]; exact hlt) hj hkj hlj
          rw [hnm k hlt] at h1
          exact hless h1)
        have hisb : isB (edes ps) n = (ps[k].1.name.toList == n.toList) := by
          rw [eq_name, Bool.eq_iff_iff, hsp.2, decide_eq_true_iff]
          exact ⟨fun ⟨h, e⟩ => by rw [← hnm k hlt]; exact e, fun e => ⟨by rw [hlen]; exact hlt, by rw [hnm k hlt]; exact e⟩⟩
        have HAT := Lib.hid hsp.1; have HIS := Lib.hid hisb
        clear hsp hisb HB hless hnm hlen
        generalize ps[k].1.name = nm at *
        go_wp2
        go_quiet (fail)
        go_wp2
        go_ret2
        exact ⟨by rw [← HAT.out, HIS.out]; rfl, _, rfl⟩
    · obtain rfl : k = ps.length := by omega
      have hsp := find_spec HS.out (name := n) (i := ps.length) (by rw [hlen]; exact Nat.le_refl _) (fun j hj hjk => by rw [hnm j (by rw [← hlen]; exact hj)]; exact HB.out j (by rw [← hlen]; exact hj) (by rw [← hlen]; exact hj)) (fun j hj hkj => by rw [hlen] at hj; omega)
      have hisb : isB (edes ps) n = false := by
        rw [Bool.eq_false_iff]
        intro hb
        obtain ⟨h, _⟩ := hsp.2.1 hb
        rw [hlen] at h; omega
      have HAT := Lib.hid hsp.1; have HIS := Lib.hid hisb
      clear hsp hisb HB hnm hlen
      go_wp2
      go_ret2
      exact ⟨by rw [← HAT.out, HIS.out]; rfl, 0, rfl⟩
end Go.Proofs.Ytcgapfmdpchemaa
