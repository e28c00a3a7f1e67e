/- The walks of the small functions of package store: numbers, number, slices.Reverse and slices.Clone at bytes, head. -/
import Derived.Test.YtcgapfmdpchemaaBase
import Derived.Deep.RegionLaw
import Derived.OrdersHeld
import Derived.Stop.BytesEq
namespace Go.Proofs.Ytcgapfmdpchemaa
open Go.RowKit
set_option maxRecDepth 100000 in
set_option maxHeartbeats 400000 in
theorem numbers_any (k : Nat) (hk : k ≤ 8) (a : Option Addr) (c : Nat) (ns : List Nat) (hn : ns.length ≤ 1000) (hb : ∀ n ∈ ns, n < 2 ^ 62) (w : World)
    (hc : ∀ j, (hj : j < ns.length) → ∃ b off, a = some ⟨b, off, none⟩ ∧ w.cell? ⟨b, off + j, none⟩ = some (iv ns[j])) :
    Calls Try.prog 56 #[.int .i64 k, .slice a ns.length c] w fun e w' =>
      ∃ v, e = .returned v ∧ w'.ownsRow w.heap.size 5 1 v (les k ns).length (bvs (les k ns)) ∧ Below w.heap.size w w' := by
  obtain ⟨i0, hi, hz0, hz1, hz2⟩ := info_parts info5
  go_enter Try.func56, Try.ntmps56
  go_wp2
  go_loopw [5, 10] (fun v i wr => ∃ m : Nat, m ≤ ns.length ∧ i = .int .i64 m ∧ wr.ownsRow w.heap.size 5 1 v (les k (ns.take m)).length (bvs (les k (ns.take m))) ∧ Below w.heap.size w wr)
    (fun _ i _ => ns.length - (intOf i).toNat)
  case atStart => exact ⟨0, by omega, rfl, World.ownsRow_nil _ _ _ _, Below.refl _ _⟩
  case round =>
    obtain ⟨m, hm, rfl, hown, hbel⟩ := hrel
    have HB := Lib.hid hb
    by_cases hlt : m < ns.length
    · obtain ⟨b, off, rfl, hcell⟩ := hc m hlt
      have hcell' : wr.cell? ⟨b, off + m, none⟩ = some (iv ns[m]) := (hbel.cell (p := ⟨b, off + m, none⟩) (block_lt_of_cell hcell)).trans hcell
      unfold iv at hcell'
      have hnm : ns[m] < 2 ^ 62 := hb _ (List.getElem_mem hlt)
      generalize hN : ns[m] = N at *
      have HN := Lib.hid hN; clear hN
      have HM := Lib.hid hnm; clear hnm; clear hb
      go_wp2
      obtain ⟨wo, hwo⟩ : ∃ wo : World, wo = wr := ⟨_, rfl⟩
      subst hwo
      go_loopw [5, 7, 15] (fun v x j wr => ∃ q y : Nat, q ≤ k ∧ j = .int .i64 q ∧ x = .int .i64 y ∧ Hid (y = N / 256 ^ q) ∧ wr.ownsRow w.heap.size 5 1 v ((les k (ns.take m)).length + q) (bvs (les k (ns.take m) ++ le q N)) ∧ Below w.heap.size w wr)
        (fun _ _ j _ => k - (intOf j).toNat)
      case atStart => exact ⟨0, N, by omega, rfl, rfl, by simp [Hid], by simpa [le] using hown, hbel⟩
      case round =>
        obtain ⟨q, y, hq, rfl, rfl, hy, hown2, hbel2⟩ := hrel
        have HNq := Lib.hid (show y < 2 ^ 62 from hy.out ▸ Nat.lt_of_le_of_lt (Nat.div_le_self _ _) HM.out)
        by_cases hlq : q < k
        · have hle : (les k (ns.take m)).length + q + 1 ≤ 1000000000 := by
            rw [les_length, List.length_take, Nat.min_eq_left hm]
            have : k * m ≤ 8 * 1000 := Nat.mul_le_mul hk (by omega)
            omega
          go_wp2_with (at_builtin; go_loud (refine app_u8_one rfl _ _ rfl rfl hown2 rfl rfl hle hbel2.size ?_); intro v' w' hown' hb')
          go_roundw
          case rel =>
            refine ⟨q + 1, y / 256, by omega, by go_num, int_div y 256, ?_, ?_, hbel2.trans hb'⟩
            · have := hy.out
              simp [Hid, this, Nat.pow_succ, Nat.div_div_eq_div_mul]
            · rw [le_snoc, ← hy.out, ← List.append_assoc, bvs_append, ← Nat.add_assoc]
              simpa [bvs, bv_mod] using hown'
          case measure => simp [intOf]; omega
        · go_wp2_with fail
          obtain rfl : q = k := by omega
          go_roundw
          case rel => exact ⟨m + 1, by omega, by go_num, by rw [les_take_succ _ _ _ hlt, HN.out, List.length_append, le_length]; exact hown2, hbel2⟩
          case measure => simp [intOf]; omega
    · go_wp2
      go_ret
      obtain rfl : m = ns.length := by omega
      rw [List.take_length] at hown
      exact ⟨_, rfl, hown, hbel⟩
set_option maxRecDepth 100000 in
set_option maxHeartbeats 400000 in
theorem number_any (l : List UInt8) (hl : l.length ≤ 4) (v : Value) (w : World) (hv : Rd w v l.length (bvs l)) :
    Calls Try.prog 68 #[v] w fun e w' => e = .returned (iv (num l)) ∧ w = w' := by
  obtain ⟨a, c, rfl, hnc, hcm, hc⟩ := hv
  go_enter Try.func68, Try.ntmps68
  go_wp2
  go_loop [3, 4] (fun n i => ∃ m : Nat, m ≤ l.length ∧ i = .int .i64 ((m : Int) - 1) ∧ n = iv (num (l.drop m)))
    (fun _ i => (intOf i + 1).toNat)
  case atStart => exact ⟨l.length, by omega, rfl, by simp [num, iv]⟩
  case round =>
    obtain ⟨m, hm, rfl, rfl⟩ := hrel
    by_cases hlt : 0 < m
    · obtain ⟨m, rfl⟩ : ∃ k, m = k + 1 := ⟨m - 1, by omega⟩
      obtain ⟨b, off, rfl, hcell⟩ := hc m (by simp [bvs]; omega)
      have hcell' : w.cell? ⟨b, off + m, none⟩ = some (bv l[m]) := by rw [hcell]; simp [bvs]
      unfold bv at hcell'
      clear hcell
      have hx : num (l.drop (m + 1)) < 16777216 := Nat.lt_of_lt_of_le (num_lt _) (Nat.le_trans (Nat.pow_le_pow_right (by decide) (show _ ≤ 3 by simp; omega)) (by decide))
      have hy := l[m].toNat_lt
      have hd : num (l.drop m) = l[m].toNat + 256 * num (l.drop (m + 1)) := by rw [List.drop_eq_getElem_cons (by omega), num_cons]
      generalize hX : num (l.drop (m + 1)) = x at *
      generalize hY : l[m].toNat = y at *
      have HX := Lib.hid hX; clear hX
      have HY := Lib.hid hY; clear hY
      have HD := Lib.hid hd; clear hd
      unfold iv
      go_wp2
      go_round
      case rel => exact ⟨m, by omega, rfl, by rw [or_byte x y hx hy, HD.out]⟩
      case measure => simp [intOf]
    · go_wp2
      go_ret
      obtain rfl : m = 0 := by omega
      exact ⟨rfl, rfl⟩

theorem ownsRow_some {w : World} {base e size n : Nat} {v : Value} {xs : List Value} (h : w.ownsRow base e size v n xs) (hn : 0 < n) : ∃ g cap, v = .slice (some ⟨g, 0, none⟩) n cap := by
  rcases h.2 with ⟨_, h0⟩ | ⟨g, cap, cur, rfl, _⟩
  · omega
  · exact ⟨g, cap, rfl⟩
set_option maxRecDepth 100000 in
set_option maxHeartbeats 800000 in
theorem rev4_cells (g c : Nat) (n0 n1 n2 n3 : Int) (w : World) (h0 : w.cell? ⟨g, 0, none⟩ = some (.int .u8 n0)) (h1 : w.cell? ⟨g, 1, none⟩ = some (.int .u8 n1)) (h2 : w.cell? ⟨g, 2, none⟩ = some (.int .u8 n2)) (h3 : w.cell? ⟨g, 3, none⟩ = some (.int .u8 n3))
    (f0 : w.frozen? ⟨g, 0, none⟩ = false) (f1 : w.frozen? ⟨g, 1, none⟩ = false) (f2 : w.frozen? ⟨g, 2, none⟩ = false) (f3 : w.frozen? ⟨g, 3, none⟩ = false) :
    Calls Try.prog 57 #[.slice (some ⟨g, 0, none⟩) 4 c] w fun e w' => e = .returned (.tuple #[]) ∧
      w' = ((((w.setCell ⟨g, 0, none⟩ (.int .u8 n3)).setCell ⟨g, 3, none⟩ (.int .u8 n0)).setCell ⟨g, 1, none⟩ (.int .u8 n2)).setCell ⟨g, 2, none⟩ (.int .u8 n1)).drew.drew := by
  go_enter Try.func57, Try.ntmps57
  go_wp2
  refine wp_loop_rounds 3 ?_
  rw [rounds_succ]
  go_wp2
  go_region
  all_goals go_wp2
  all_goals rw [rounds_succ]
  all_goals go_wp2
  all_goals go_region
  all_goals go_wp2
  all_goals rw [rounds_succ]
  all_goals go_wp2
  all_goals go_end0
  all_goals exact ⟨rfl, rfl⟩
/-- slices.Reverse of four bytes of the call's own -/
theorem rev4 {base : Nat} {v : Value} {b0 b1 b2 b3 : UInt8} (w : World) (h : w.ownsRow base 5 1 v 4 (bvs [b0, b1, b2, b3])) :
    Calls Try.prog 57 #[v] w fun e w' => e = .returned (.tuple #[]) ∧ w'.ownsRow base 5 1 v 4 (bvs [b3, b2, b1, b0]) ∧ Below base w w' := by
  have hlt := h.lt
  obtain ⟨g, cap, rfl⟩ := ownsRow_some h (by omega)
  have hb : base ≤ g := (hlt g rfl).1
  refine (rev4_cells g cap _ _ _ _ w (h.cellAt 0 (by omega)) (h.cellAt 1 (by omega)) (h.cellAt 2 (by omega)) (h.cellAt 3 (by omega)) (h.frozenAt 0) (h.frozenAt 1) (h.frozenAt 2) (h.frozenAt 3)).mono ?_
  rintro e w' ⟨rfl, rfl⟩
  refine ⟨rfl, ?_, (((((Below.refl base w).setCell hb _).setCell hb _).setCell hb _).setCell hb _).drew.drew⟩
  exact ((((h.stored 0 _).1.stored 3 _).1.stored 1 _).1.stored 2 _).1.drew.drew
theorem rev4l {base : Nat} {v : Value} {l : List UInt8} (hl : l.length = 4) (w : World) (h : w.ownsRow base 5 1 v 4 (bvs l)) :
    Calls Try.prog 57 #[v] w fun e w' => e = .returned (.tuple #[]) ∧ w'.ownsRow base 5 1 v 4 (bvs l.reverse) ∧ Below base w w' := by
  match l, hl with
  | [b0, b1, b2, b3], _ => exact rev4 w h
set_option maxRecDepth 100000 in
set_option maxHeartbeats 800000 in
/-- slices.Clone of bytes -/
theorem clone_any (a : Addr) (l : List UInt8) (hl : l.length ≤ 100000) (c : Nat) (w : World) (hv : ∀ j u, (bvs l)[j]? = some u → w.cell? (a.add j) = some u) :
    Calls Try.prog 69 #[.slice (some a) l.length c] w fun e w' => ∃ v, e = .returned v ∧ w'.ownsRow w.heap.size 5 1 v l.length (bvs l) ∧ Below w.heap.size w w' := by
  have hnil := fun w => Lib.run_eql_slice_nil (P := Try.prog) w 97 5 (some a) l.length c 0 0 Try.underlying97
  go_enter Try.func69, Try.ntmps69
  go_wp2_with (at_builtin; refine app_u8 rfl _ _ rfl rfl (World.ownsRow_lit (size := 1) w #[] 0 (Nat.le_refl _) (by decide) rfl) rfl (by rw [bvs_length]) (fun j u hj => cell_later (Below.alloc (Below.refl _ _) (Nat.le_refl _) _) (hv j u hj)) (oneCell_bvs l) (by omega) (by simp) ?_; intro v' w' h2 h3 h4)
  go_ret
  exact ⟨_, rfl, by simpa using h2, ((Below.refl _ w).alloc (Nat.le_refl _) _).trans h4⟩
theorem numbers4 (v : Value) (ns : List Nat) (hn : ns.length ≤ 1000) (hb : ∀ n ∈ ns, n < 4294967296) (w : World) (hv : Rd w v ns.length (ivs ns)) :
    Calls Try.prog 56 #[.int .i64 4, v] w fun e w' => ∃ v, e = .returned v ∧ w'.ownsRow w.heap.size 5 1 v (les 4 ns).length (bvs (les 4 ns)) ∧ Below w.heap.size w w' := by
  obtain ⟨a, c, rfl, hnc, hcm, hc⟩ := hv
  exact numbers_any 4 (by omega) a c ns hn (fun n hn => Nat.lt_of_lt_of_le (hb n hn) (by decide)) w (fun j hj => by obtain ⟨b, off, h1, h2⟩ := hc j (by rw [ivs_length]; exact hj); exact ⟨b, off, h1, by rw [h2]; simp [ivs]⟩)
theorem numbers2 (v : Value) (ns : List Nat) (hn : ns.length ≤ 1000) (hb : ∀ n ∈ ns, n < 4294967296) (w : World) (hv : Rd w v ns.length (ivs ns)) :
    Calls Try.prog 56 #[.int .i64 2, v] w fun e w' => ∃ v, e = .returned v ∧ w'.ownsRow w.heap.size 5 1 v (les 2 ns).length (bvs (les 2 ns)) ∧ Below w.heap.size w w' := by
  obtain ⟨a, c, rfl, hnc, hcm, hc⟩ := hv
  exact numbers_any 2 (by omega) a c ns hn (fun n hn => Nat.lt_of_lt_of_le (hb n hn) (by decide)) w (fun j hj => by obtain ⟨b, off, h1, h2⟩ := hc j (by rw [ivs_length]; exact hj); exact ⟨b, off, h1, by rw [h2]; simp [ivs]⟩)
theorem Rd_sub {w : World} {g : Nat} {L : List UInt8} {t : TypeId} {fr : Nat × Nat} (h : w.heap[g]? = some (.cells (bvs L).toArray t fr)) (off n c : Nat) (hle : off + n ≤ L.length) (hnc : n ≤ c := by decide) (hcm : c ≤ maxLen := by decide) : Rd w (.slice (some ⟨g, off, none⟩) n c) n (bvs ((L.drop off).take n)) := by
  refine ⟨_, _, rfl, hnc, hcm, fun j hj => ⟨_, _, rfl, ?_⟩⟩
  rw [cell_of_row _ _ _ _ _ _ h]
  simp [bvs] at hj ⊢
  simp [show off + j < L.length by omega]
theorem number_rd {n : Nat} {l : List UInt8} (hn : l.length = n) (h4 : n ≤ 4) (v : Value) (w : World) (hv : Rd w v n (bvs l)) :
    Calls Try.prog 68 #[v] w fun e w' => e = .returned (iv (num l)) ∧ w = w' := by
  subst hn
  exact number_any l h4 v w hv
theorem clone_rd {n : Nat} {l : List UInt8} (hn : l.length = n) (hl : n ≤ 100000) (h0 : 0 < n) (v : Value) (w : World) (hv : Rd w v n (bvs l)) :
    Calls Try.prog 69 #[v] w fun e w' => ∃ v, e = .returned v ∧ w'.ownsRow w.heap.size 5 1 v n (bvs l) ∧ Below w.heap.size w w' := by
  subst hn
  obtain ⟨a, c, rfl, hnc, hcm, hc⟩ := hv
  obtain ⟨b, off, rfl, _⟩ := hc 0 (by rw [bvs_length]; exact h0)
  refine clone_any _ l hl c w fun j u hu => ?_
  rw [List.getElem?_eq_some_iff] at hu
  obtain ⟨hj, rfl⟩ := hu
  obtain ⟨b2, o2, he, hcc⟩ := hc j hj
  cases he
  rw [Addr.add_lit]
  exact hcc
/-- the bytes of a head -/
def headB (change size : Nat) (l : List Nat) : List UInt8 := spl (spl zp 0 (les 4 [change, size] ++ les 2 [l.length] ++ les 2 l)) 252 (le 4 change).reverse
set_option maxRecDepth 100000 in
set_option maxHeartbeats 800000 in
theorem head_any (change size : Nat) (hch : change < 4294967296) (hsz : size < 4294967296) (ns : List Nat) (hn : ns.length ≤ 100) (hns : ∀ n ∈ ns, n < 65536) (v : Value) (w : World)
    (hl : Rd w v ns.length (ivs ns)) :
    Calls Try.prog 31 #[.int .i64 change, .int .i64 size, v] w fun e w' =>
      e = .returned (pg (headB change size ns)) ∧ Below w.heap.size w w' := by
  have hl' := hl
  obtain ⟨a, c, rfl, hnc, hcm, hc⟩ := hl'
  clear hnc hcm
  clear hc
  go_enter Try.func31, Try.ntmps31
  have tok1 : True := trivial
  have tok2 : True := trivial
  go_wp2_with (first | (have _t := tok1; refine al81n rfl rfl ?_; intro w1 h1 hs1 hb1; clear tok1; have H1 := Lib.hid h1; clear h1) | (have _t := tok2; refine al81n rfl rfl ?_; intro w2 h2 hs2 hb2; clear tok2; have H2 := Lib.hid h2; clear h2))
  have HG := Lib.hid (show w2.heap[w.heap.size]? = some (.cells (bvs zp).toArray 81 (0, 0)) from (hb2.block _ (by omega)).trans H1.out)
  have hb0 : Below w.heap.size w w2 := hb1.trans (hb2.mono (by omega))
  clear hb1 hb2 H1
  refine (numbers4 _ [change, size] (by simp) (by simp; omega) _ (Rd_new w2 [iv change, iv size] 3 _ 2 rfl)).mono ?_
  rintro e w3 ⟨v3, rfl, o3, b3⟩
  have c3 : Below w2.heap.size w2 w3 := ((Below.refl _ w2).alloc (Nat.le_refl _) _).trans (b3.mono (by simp))
  have hs3 := c3.size
  clear b3
  simp only [World.size_alloc] at o3
  go_wp2_with fail
  refine (numbers2 _ [ns.length] (by simp) (by simp; omega) _ (Rd_new w3 [iv ns.length] 3 _ 1 rfl)).mono ?_
  rintro e w4 ⟨v4, rfl, o4, b4⟩
  have c4 : Below w2.heap.size w2 w4 := c3.trans (((Below.refl _ w3).alloc (by omega) _).trans (b4.mono (by simp; omega)))
  have hs4 := c4.size
  have o3' := own_base (own_below (o3.alloc (.cells [iv ns.length].toArray 3)) b4 (Nat.le_refl _)) (Nat.le_succ w2.heap.size)
  have hle : (les 4 [change, size]).length + (les 2 [ns.length]).length ≤ 1000000000 := by simp [les_length]
  clear o3 b4
  go_wp2_with (at_builtin; refine app_rd el97 rfl _ _ rfl rfl o3' rfl (Rd_own o4) (by rw [bvs_length, Nat.mul_one]) (oneCell_bvs _) hle hs4 ?_)
  intro v5 w5 o5 _ b5
  have c5 : Below w2.heap.size w2 w5 := c4.trans b5
  have hs5 := c5.size
  clear o3' o4 b5 hle
  go_wp2_with fail
  refine (numbers2 _ ns (by omega) (fun n hn => Nat.lt_trans (hns n hn) (by decide)) _ (hl.below (hb0.trans (c5.mono (by omega))) (Nat.le_refl _))).mono ?_
  rintro e w6 ⟨v6, rfl, o6, b6⟩
  have c6 : Below w2.heap.size w2 w6 := c5.trans (b6.mono (by omega))
  have hs6 := c6.size
  have o5' := own_below o5 b6 (Nat.le_refl _)
  have hle : (les 4 [change, size]).length + (les 2 [ns.length]).length + (les 2 ns).length ≤ 1000000000 := by simp [les_length]; omega
  clear o5 b6
  go_wp2_with (at_builtin; refine app_rd el97 rfl _ _ rfl rfl o5' rfl (Rd_own o6) (by rw [bvs_length, Nat.mul_one]) (oneCell_bvs _) hle hs6 ?_)
  intro v7 w7 o7 _ b7
  have c7 : Below w2.heap.size w2 w7 := c6.trans b7
  have hs7 := c7.size
  clear o5' o6 b7 hle
  obtain ⟨X, hX⟩ : ∃ X, X = les 4 [change, size] ++ les 2 [ns.length] ++ les 2 ns := ⟨_, rfl⟩
  have hX2 : X.length ≤ 252 := by rw [hX]; simp [les_length]; omega
  have o7' : w7.ownsRow w2.heap.size 5 1 v7 X.length (bvs X) := by rw [hX]; simpa [bvs_append, Nat.add_assoc] using o7
  clear o7
  have G7 : w7.heap[w1.heap.size]? = some (.cells (bvs zp).toArray 81 (0, 0)) := (c7.block _ (by omega)).trans H2.out
  have HX := Lib.hid hX; clear hX
  have r7 := Rd_own o7'
  have hz256 : zp.length = 256 := zp_length
  have HG7 := Lib.hid G7; clear G7
  have hXa : X.length ≤ 256 := by omega
  have hXb : 0 + X.length ≤ zp.length := by omega
  go_wp2_with (refine cp_u8 rfl _ _ rfl rfl rfl r7 rfl HG7.out hXa hXb ?_)
  intro w8 g8 c8
  have hs8 : w7.heap.size ≤ w8.heap.size := Nat.le_of_eq c8.size.symm
  have d8 : Below w1.heap.size w2 w8 := (c7.mono (by omega)).trans (c8.below (Nat.le_refl _))
  have HG8 := Lib.hid g8; clear g8
  clear r7 o7'
  go_wp2_with fail
  refine (numbers4 _ [change] (by simp) (by simp; omega) _ (Rd_new w8 [iv change] 3 _ 1 rfl)).mono ?_
  rintro e w9 ⟨v9, rfl, o9, b9⟩
  have d9 : Below w1.heap.size w2 w9 := d8.trans (((Below.refl _ w8).alloc (by omega) _).trans (b9.mono (by simp; omega)))
  have G9 := Lib.hid ((b9.block w1.heap.size (by simp; omega)).trans ((heap_alloc_old w8 _ (show w1.heap.size < w8.heap.size by omega)).trans HG8.out))
  have hs9 := d9.size
  have o9' := own_base o9 (show w2.heap.size ≤ _ by simp; omega)
  clear b9 o9
  have e1 : les 4 [change] = le 4 change := by simp [les]
  rw [e1, le_length] at o9'
  clear e1
  go_wp2_with fail
  refine (rev4l (le_length 4 change) _ o9').mono ?_
  rintro e w10 ⟨rfl, o10, b10⟩
  have d10 := d9.trans (b10.mono (show w1.heap.size ≤ w2.heap.size by omega))
  have G10 := Lib.hid ((b10.block w1.heap.size (by omega)).trans G9.out)
  have hl4 : 4 = (le 4 change).reverse.length := by simp [le_length]
  have hX4 : (le 4 change).reverse.length ≤ 4 := by simp [le_length]
  have hs256 : (spl zp 0 X).length = 256 := by rw [spl_length _ _ _ hXb]; exact zp_length
  have hX5 : 252 + (le 4 change).reverse.length ≤ (spl zp 0 X).length := by omega
  have HL4 := Lib.hid hl4; clear hl4
  have HS := Lib.hid hs256; clear hs256 hz256
  have r10' := Rd_own o10
  clear o9' G9 HG8 HG7
  go_wp2_with (refine cp_u8 rfl _ _ rfl rfl rfl r10' HL4.out G10.out hX4 hX5 ?_)
  intro w11 g11 c11
  have G11 := Lib.hid g11; clear g11
  have d11 := d10.trans (c11.below (Nat.le_refl _))
  have F11 := Lib.hid ((d11.block w.heap.size (by omega)).trans HG.out)
  have hsp : (spl (spl zp 0 X) 252 (le 4 change).reverse).length = 256 := by rw [spl_length _ _ _ hX5]; exact HS.out
  have HSP := Lib.hid hsp; clear hsp
  have hz : (bvs zp).toArray.size = 256 := by simp [bvs, zp_length]
  have HZ := Lib.hid hz; clear hz
  have tok : True := trivial
  clear r10' HG
  go_wp2_with (first | (have _t := tok; refine ld81v rfl _ rfl rfl G11.out HSP.out ?_; clear tok) | (refine st81 rfl _ _ rfl rfl rfl HSP.out F11.out HZ.out ?_))
  intro w12 g12 c12
  have G12 := Lib.hid g12; clear g12
  go_wp2
  refine bodyPost_ret (v := pg (headB change size ns)) ?_ rfl ⟨rfl, hb0.trans ((d11.mono (by omega)).trans (c12.below (Nat.le_refl _)))⟩
  have := HX.out
  subst this
  exact results_cell_row rfl _ _ w.heap.size 81 _ (0, 0) _ rfl G12.out Try.underlying81 rfl (by rw [size81, List.size_toArray, bvs_length]; exact congrArg some HSP.out.symm)
end Go.Proofs.Ytcgapfmdpchemaa
/- The walks of the pages' sums: sum, whole, made. -/
namespace Go.Proofs.Ytcgapfmdpchemaa
open Go.RowKit
def plainTo (L : List UInt8) : Nat → Nat
  | 0 => 0
  | k + 1 => plainTo L k + (L.getD k 0).toNat
def placedTo (L : List UInt8) : Nat → Nat
  | 0 => 0
  | k + 1 => placedTo L k + (L.getD k 0).toNat * (k + 1)
theorem plainTo_le (L : List UInt8) (k : Nat) : plainTo L k ≤ 255 * k := by
  induction k with
  | zero => simp [plainTo]
  | succ k ih => have := (L.getD k 0).toNat_lt; simp only [plainTo]; omega
theorem placedTo_le (L : List UInt8) (k : Nat) (hk : k ≤ 248) : placedTo L k ≤ 255 * 248 * k := by
  induction k with
  | zero => simp [placedTo]
  | succ k ih =>
    have h1 := (L.getD k 0).toNat_lt
    have h2 : (L.getD k 0).toNat * (k + 1) ≤ 255 * 248 := Nat.mul_le_mul (by omega) hk
    have := ih (by omega)
    simp only [placedTo]
    omega
/-- the sum of a page's bytes -/
def sumB (L : List UInt8) : List UInt8 := les 4 [plainTo L 248, placedTo L 248]
theorem sumB_length (L : List UInt8) : (sumB L).length = 8 := by simp [sumB, les_length]
set_option maxRecDepth 100000 in
set_option maxHeartbeats 1000000 in
theorem sum_any (L : List UInt8) (hL : L.length = 256) (w : World) :
    Calls Try.prog 70 #[pg L] w fun e w' => e = .returned (pg (sumB L)) ∧ Below w.heap.size w w' := by
  have HL := Lib.hid hL; clear hL
  go_enter Try.func70, Try.ntmps70
  have tok : True := trivial
  go_wp2_with (have _t := tok; refine bx81 rfl _ rfl rfl ?_; clear tok)
  generalize hw : (w.alloc (.cells (bvs L).toArray 81)).alloc (.cells #[.int .u8 0, .int .u8 0, .int .u8 0, .int .u8 0, .int .u8 0, .int .u8 0, .int .u8 0, .int .u8 0] 139) = w1
  have g1 : w1.heap[w.heap.size]? = some (.cells (bvs L).toArray 81 (0, 0)) := by subst hw; exact (heap_alloc_old _ _ (by simp)).trans (heap_alloc_new w _)
  have g2 : w1.heap[w.heap.size + 1]? = some (.cells (bvs z8).toArray 139 (0, 0)) := by subst hw; have := heap_alloc_new (w.alloc (.cells (bvs L).toArray 81)) (.cells (bvs z8).toArray 139); rw [World.size_alloc] at this; exact this
  have b1 : Below w.heap.size w w1 := by subst hw; exact ((Below.refl _ w).alloc (Nat.le_refl _) _).alloc (by simp) _
  have s1 : w.heap.size + 2 ≤ w1.heap.size := by subst hw; simp
  clear hw
  have hcell : ∀ k, (hk : k < 248) → w1.cell? ⟨w.heap.size, k, none⟩ = some (bv (L.getD k 0)) := fun k hk => by
    rw [cell_of_row _ _ _ _ _ _ g1]
    have := HL.out
    simp [bvs, List.getD_eq_getElem?_getD, List.getElem?_eq_getElem (show k < L.length by omega)]
  have G1 := Lib.hid g1; clear g1
  have G2 := Lib.hid g2; clear g2
  have HC := Lib.hid hcell; clear hcell
  go_loop [3, 4, 9] (fun p q i => ∃ k : Nat, k ≤ 248 ∧ i = .int .i64 k ∧ p = .int .u32 (plainTo L k : Nat) ∧ q = .int .u32 (placedTo L k : Nat)) (fun _ _ i => 248 - (intOf i).toNat)
  case atStart => exact ⟨0, by omega, rfl, rfl, rfl⟩
  case round =>
    obtain ⟨k, hk, rfl, rfl, rfl⟩ := hrel
    have hp := plainTo_le L k
    have hq := placedTo_le L k hk
    by_cases hlt : k < 248
    · have hc := HC.out k hlt
      have hb := (L.getD k 0).toNat_lt
      have e1 : plainTo L (k + 1) = plainTo L k + (L.getD k 0).toNat := rfl
      have e2 : placedTo L (k + 1) = placedTo L k + (L.getD k 0).toNat * (k + 1) := rfl
      have hm : (L.getD k 0).toNat * (k + 1) ≤ 255 * 248 := Nat.mul_le_mul (by omega) (by omega)
      unfold bv at hc
      generalize hB : (L.getD k 0).toNat = B at *
      generalize hP : plainTo L k = p at *
      generalize hQ : placedTo L k = q at *
      have E1 := Lib.hid e1; have E2 := Lib.hid e2; clear e1 e2 hB hP hQ
      have hm2 : (B : Int) * ((k : Int) + 1) ≤ 63240 := by
        have : ((B * (k + 1) : Nat) : Int) ≤ 63240 := by omega
        simpa using this
      have hm3 : 0 ≤ (B : Int) * ((k : Int) + 1) := Int.mul_nonneg (by omega) (by omega)
      go_wp2
      go_round
      case rel => exact ⟨k + 1, by omega, by go_num, by rw [E1.out]; go_num, by rw [E2.out]; simp⟩
      case measure => simp [intOf]; omega
    · obtain rfl : k = 248 := by omega
      clear HC
      have hp' : plainTo L 248 ≤ 63240 := by omega
      have hq' : placedTo L 248 ≤ 15683520 := by omega
      have e1 : IntKind.i64.wrap ((plainTo L 248 : Nat) : Int) = (plainTo L 248 : Nat) := IntWalk.i64_in _ (by omega)
      have e2 : IntKind.i64.wrap ((placedTo L 248 : Nat) : Int) = (placedTo L 248 : Nat) := IntWalk.i64_in _ (by omega)
      have h8 : (les 4 [plainTo L 248, placedTo L 248]).length = 8 := by simp [les_length]
      have H8 := Lib.hid h8; clear h8
      have g2d : w1.drew.heap[w.heap.size + 1]? = some (.cells (bvs z8).toArray 139 (0, 0)) := G2.out
      have G2D := Lib.hid g2d; clear g2d
      go_wp2
      go_region_law (first | (refine step_of rfl (op_cp_u8 _ _ rfl rfl rfl (Rd_own o2) rfl G3.out (by rw [H8.out]; exact Nat.le_refl 8) (by rw [H8.out]; exact Nat.le_refl 8) ?_); intro w3 g3 c3) | (go_simp; go_at_call 56; refine (numbers4 _ [plainTo L 248, placedTo L 248] (by simp) (by simp; omega) _ (Rd.drew (Rd_new w1 [iv (plainTo L 248), iv (placedTo L 248)] 3 _ 2 rfl))).mono ?_; rintro e w2 ⟨v2, rfl, o2, b2⟩; have G3 := Lib.hid ((b2.block (w.heap.size + 1) (by simp; omega)).trans ((heap_alloc_old w1 _ (show w.heap.size + 1 < w1.heap.size by omega)).trans G2.out))))
      have hspl : spl z8 0 (les 4 [plainTo L 248, placedTo L 248]) = sumB L := by
        have := H8.out
        unfold spl sumB
        rw [this]
        simp [z8]
      rw [hspl] at g3
      have G4 := Lib.hid g3; clear g3 hspl
      have hl8 : (sumB L).length = 8 := sumB_length L
      have HL8 := Lib.hid hl8; clear hl8
      have htk : ((sumB L).drop 0).take 8 = sumB L := by rw [List.drop_zero, List.take_of_length_le (by rw [HL8.out]; exact Nat.le_refl 8)]
      have HTK := Lib.hid htk; clear htk
      have hsz8 : (bvs (sumB L)).toArray.size = 8 := by simp only [List.size_toArray, bvs_length]; exact HL8.out
      have HSZ := Lib.hid hsz8; clear hsz8
      have tok2 : True := trivial
      go_wp2_with (first | (have _t := tok2; refine ldv agg139 size139 rfl _ rfl rfl G4.out (by rw [HL8.out]; exact Nat.le_refl 8) ?_; clear tok2; rw [HTK.out]) | (refine stv size139 rfl _ _ rfl rfl rfl HL8.out G4.out HSZ.out ?_))
      intro w4 g5 c4
      have G5 := Lib.hid g5; clear g5
      go_wp2
      refine bodyPost_ret (v := pg (sumB L)) ?_ rfl ⟨rfl, ?_⟩
      · exact results_cell_row rfl _ _ (w.heap.size + 1) 139 _ (0, 0) _ rfl G5.out Try.underlying139 rfl (by rw [size139]; exact congrArg some HSZ.out.symm)
      · refine (b1.trans (((Below.refl w.heap.size w1).alloc (by omega) (.cells [iv (plainTo L 248), iv (placedTo L 248)].toArray 3)).trans ?_)).trans ((c3.below (by omega)).trans (c4.below (by omega)))
        exact (Below.refl _ _).drew.trans (b2.mono (by simp; omega))
theorem ld_run {ty n : Nat} (ha : ∀ w, (isAgg ty).run Try.prog w = .ok true w) (hsz : (Try.prog.info? ty).map (·.size) = some n) (w : World) {g off : Nat} {L : List UInt8} {t : TypeId} {fr : Nat × Nat} (hg : w.heap[g]? = some (.cells (bvs L).toArray t fr)) (hle : off + n ≤ L.length) :
    (loadVar ty ⟨g, off, none⟩).run Try.prog w = .ok (pg ((L.drop off).take n)) w :=
  run_loadAgg ha hsz w g off (bvs ((L.drop off).take n)) (by simp [bvs]; omega) (fun j v hv => by
    rw [cell_of_row w g _ _ t fr hg]
    simp only [bvs, List.map_take, List.map_drop, List.getElem?_take, List.getElem?_drop, List.getElem?_toArray] at hv ⊢
    split at hv
    · exact hv
    · cases hv)
theorem exec_load {ρ : Operand → Value} {o : Oper} {ty : TypeId} {x : Operand} {ad : Addr} {v : Value} {W : World} (ho : o.op = .load ty x) (hx : ρ x = .pointer (some ad)) (h : (loadVar ty ad).run Try.prog W = .ok v W) : (execOp ρ o).run Try.prog W = .ok (.value v) W := by
  unfold execOp
  simp only [ho, hx, Instr.loadAt, Instr.sureAddr, Sem.run_bind, Sem.run_pure, Result.andThen_ok, h]
theorem exec_eql139 {ρ : Operand → Value} {o : Oper} {x y : Operand} {X Y : List UInt8} {W : World} (ho : o.op = .binOp .eql 139 x y 139) (hx : ρ x = pg X) (hy : ρ y = pg Y) (h1 : X.length = 8) (h2 : Y.length = 8) : (execOp ρ o).run Try.prog W = .ok (.value (.bool (X == Y))) W := by
  have hr := run_eql_bytes (P := Try.prog) W 139 5 8 Try.underlying139 Try.underlying5 (fun w => run_size (by kernel_rfl) w) X Y h1 h2
  have hg : (Try.prog.eqGuardType Try.prog.depth 139) = false := by kernel_rfl
  unfold execOp
  have hr' : (binOp .eql 139 (.agg (bvs X).toArray) (.agg (bvs Y).toArray)).run Try.prog W = .ok (.bool (X == Y)) W := hr
  simp [ho, hx, hy, pg, eqGuard, hg, hr']
theorem op_at {ops : Array Oper} {Q : Exit → Act → World → Prop} {K : Act → World → Prop} {a : Act} {w : World} {i : Nat} {o : Oper} (ho : ops[i]? = some o) (hg : o.guard = none) (h : o.wp Try.prog a w K Q) : wpOp Try.prog ops Q i K a w := by
  unfold wpOp
  rw [ho]
  simp only [Region.wanted, hg, if_true]
  exact .inl h
set_option maxRecDepth 100000 in
set_option maxHeartbeats 1000000 in
theorem whole_any (L : List UInt8) (hL : L.length = 256) (w : World) :
    Calls Try.prog 45 #[pg L] w fun e w' => e = .returned (.bool (sumB L == L.drop 248)) ∧ Below w.heap.size w w' := by
  have HL := Lib.hid hL; clear hL
  go_enter Try.func45, Try.ntmps45
  have tok : True := trivial
  go_wp2_with (have _t := tok; refine bx81 rfl _ rfl rfl ?_; clear tok)
  generalize hw : (w.alloc (.cells (bvs L).toArray 81)) = w1
  have g1 : w1.heap[w.heap.size]? = some (.cells (bvs L).toArray 81 (0, 0)) := by subst hw; exact heap_alloc_new w _
  have b1 : Below w.heap.size w w1 := by subst hw; exact (Below.refl _ w).alloc (Nat.le_refl _) _
  have s1 : w.heap.size + 1 ≤ w1.heap.size := by subst hw; simp
  clear hw
  refine wp_region_held (S := fun W => W.heap[w.heap.size]? = some (.cells (bvs L).toArray 81 (0, 0))) (by kernel_rfl) ?_
  refine wpAnyH_take (i := 0) (v := pg L) rfl (by kernel_rfl) (by kernel_rfl) (by kernel_rfl) (fun _ _ _ h => h) (.inl ⟨by rfl, fun W hS => ?_⟩) g1 ?_
  · refine exec_load rfl rfl ?_
    have := ld_run agg81 size81 W hS (off := 0) (by rw [HL.out]; exact Nat.le_refl 256)
    rwa [List.drop_zero, List.take_of_length_le (by rw [HL.out]; exact Nat.le_refl 256)] at this
  refine wpAnyH_take (i := 2) (v := .slice (some ⟨w.heap.size, 248, none⟩) 8 8) rfl (by kernel_rfl) (by kernel_rfl) (by kernel_rfl) (fun _ _ _ h => h) (.inl ⟨by rfl, fun W hS => by kernel_rfl⟩) g1 ?_
  refine wpAnyH_take (i := 3) (v := .pointer (some ⟨w.heap.size, 248, none⟩)) rfl (by kernel_rfl) (by kernel_rfl) (by kernel_rfl) (fun _ _ _ h => h) (.inl ⟨by rfl, fun W hS => by kernel_rfl⟩) g1 ?_
  refine wpAnyH_take (i := 4) (v := pg (L.drop 248)) rfl (by kernel_rfl) (by kernel_rfl) (by kernel_rfl) (fun _ _ _ h => h) (.inl ⟨by rfl, fun W hS => ?_⟩) g1 ?_
  · refine exec_load rfl rfl ?_
    have := ld_run agg139 size139 W hS (off := 248) (by rw [HL.out]; exact Nat.le_refl 256)
    rwa [List.take_of_length_le (by rw [List.length_drop, HL.out]; exact Nat.le_refl 8)] at this
  refine wpAnyH_all (rs := [1]) (by kernel_rfl) (by simp) ?_
  intro i hi
  obtain rfl : i = 1 := by simpa using hi
  refine op_at rfl rfl ?_
  go_simp
  refine (sum_any L HL.out _).mono ?_
  rintro e w2 ⟨rfl, b2⟩
  have g2 : w2.heap[w.heap.size]? = some (.cells (bvs L).toArray 81 (0, 0)) := (b2.block _ (by simp; omega)).trans g1
  refine ⟨g2, ?_⟩
  refine wpAnyH_take (i := 5) (v := .bool (sumB L == L.drop 248)) rfl (by kernel_rfl) (by kernel_rfl) (by kernel_rfl) (fun _ _ _ h => h) (.inl ⟨by rfl, fun W hS => exec_eql139 rfl rfl rfl (sumB_length L) (by rw [List.length_drop, HL.out])⟩) g2 ?_
  refine wpAnyH_take (i := 6) (v := .bool (sumB L == L.drop 248)) rfl (by kernel_rfl) (by kernel_rfl) (by kernel_rfl) (fun _ _ _ h => h) (.inl ⟨by rfl, fun W hS => by kernel_rfl⟩) g2 ?_
  refine wpAnyH_done (by kernel_rfl) ?_ _
  go_wp2
  go_ret
  exact ⟨rfl, b1.trans ((Below.refl _ w1).drew.trans (b2.mono (by simp; omega)))⟩
/-- the page of some bytes -/
def madeB (l : List UInt8) : List UInt8 := spl (spl zp 0 l) 248 (sumB (spl zp 0 l))
set_option maxRecDepth 100000 in
set_option maxHeartbeats 1000000 in
theorem made_any (l : List UInt8) (hl : l.length ≤ 248) (v : Value) (w : World) (hv : Rd w v l.length (bvs l)) :
    Calls Try.prog 65 #[v] w fun e w' => e = .returned (pg (madeB l)) ∧ Below w.heap.size w w' := by
  go_enter Try.func65, Try.ntmps65
  have tok1 : True := trivial
  have tok2 : True := trivial
  have hz256 : zp.length = 256 := zp_length
  have hXa : l.length ≤ 256 := by omega
  have hXb : 0 + l.length ≤ zp.length := by omega
  have hs1 : (spl zp 0 l).length = 256 := by rw [spl_length _ _ _ hXb]; exact zp_length
  have hs3 : 248 + (sumB (spl zp 0 l)).length ≤ (spl zp 0 l).length := by rw [sumB_length]; omega
  have hs4 : (madeB l).length = 256 := by unfold madeB; rw [spl_length _ _ _ hs3]; exact hs1
  have hs5 : (sumB (spl zp 0 l)).length ≤ 8 := by rw [sumB_length]; omega
  have hz : (bvs zp).toArray.size = 256 := by simp [bvs, zp_length]
  have HZ := Lib.hid hz; clear hz
  have HS1 := Lib.hid hs1; have HS4 := Lib.hid hs4; clear hs1 hs4 hz256
  go_wp2_with (first | (have _t := tok1; refine al81n rfl rfl ?_; intro w1 h1 hs1 hb1; clear tok1; have H1 := Lib.hid h1; clear h1) | (have _t := tok2; refine al81n rfl rfl ?_))
  intro w2 h2 hs2 hb2
  have H2 := Lib.hid h2; clear h2
  clear tok2
  have F2 := Lib.hid ((hb2.block w.heap.size (by omega)).trans H1.out)
  have hb0 : Below w.heap.size w w2 := hb1.trans (hb2.mono (by omega))
  have r2 := hv.below hb0 (Nat.le_refl _)
  clear hb1 hb2 H1
  go_wp2_with (refine cp_u8 rfl _ _ rfl rfl rfl r2 rfl H2.out hXa hXb ?_)
  intro w3 g3 c3
  have G3 := Lib.hid g3; clear g3
  have hs3' : w2.heap.size ≤ w3.heap.size := Nat.le_of_eq c3.size.symm
  have d3 : Below w1.heap.size w2 w3 := c3.below (Nat.le_refl _)
  clear r2 H2
  go_wp2_with (refine ld81v rfl _ rfl rfl G3.out HS1.out ?_)
  refine (sum_any _ HS1.out _).mono ?_
  rintro e w4 ⟨rfl, b4⟩
  have d4 : Below w1.heap.size w2 w4 := d3.trans (b4.mono (by omega))
  have G4 := Lib.hid ((b4.block w1.heap.size (by omega)).trans G3.out)
  have hs4' := b4.size
  go_wp2_with (refine aln zero139_eq rfl rfl ?_)
  intro w5 h5 hs5' b5
  have H5 := Lib.hid h5; clear h5
  have d5 : Below w1.heap.size w2 w5 := d4.trans (b5.mono (by omega))
  have G5 := Lib.hid ((b5.block w1.heap.size (by omega)).trans G4.out)
  have hl8 : (sumB (spl zp 0 l)).length = 8 := sumB_length _
  have HL8 := Lib.hid hl8; clear hl8
  have hz8 : (bvs z8).toArray.size = 8 := rfl
  have HZ8 := Lib.hid hz8; clear hz8
  clear G4 G3
  go_wp2_with (refine stv size139 rfl _ _ rfl rfl rfl HL8.out H5.out HZ8.out ?_)
  intro w6 g6 c6
  have d6 : Below w1.heap.size w2 w6 := d5.trans (c6.below (by omega))
  have G6 := Lib.hid ((c6.block w1.heap.size (by omega)).trans G5.out)
  have r6 : Rd w6.drew (.slice (some ⟨w4.heap.size, 0, none⟩) 8 8) 8 (bvs (sumB (spl zp 0 l))) := ⟨_, _, rfl, Nat.le_refl _, by decide, fun j hj => ⟨_, _, rfl, by
    rw [Nat.zero_add]
    have := cell_of_row w6.drew w4.heap.size j _ _ _ g6
    rw [this]
    simp [bvs] at hj ⊢
    simp [hj]⟩⟩
  clear g6 H5 G5
  have HR := Lib.hid r6; clear r6
  go_wp2
  go_region_law (refine step_of rfl (op_cp_u8 _ _ rfl rfl rfl HR.out HL8.out.symm G6.out hs5 hs3 ?_); intro w7 g7 c7)
  have d7 : Below w1.heap.size w2 w7 := d6.trans ((Below.refl _ w6).drew.trans (c7.below (Nat.le_refl _)))
  have G7 := Lib.hid (show w7.heap[w1.heap.size]? = some (.cells (bvs (madeB l)).toArray 81 (0, 0)) from g7); clear g7
  have F7 := Lib.hid ((d7.block w.heap.size (by omega)).trans F2.out)
  have tok : True := trivial
  clear HR G6
  go_wp2_with (first | (have _t := tok; refine ld81v rfl _ rfl rfl G7.out HS4.out ?_; clear tok) | (refine st81 rfl _ _ rfl rfl rfl HS4.out F7.out HZ.out ?_))
  intro w8 g8 c8
  have G8 := Lib.hid g8; clear g8
  go_wp2
  refine bodyPost_ret (v := pg (madeB l)) ?_ rfl ⟨rfl, hb0.trans ((d7.mono (by omega)).trans (c8.below (Nat.le_refl _)))⟩
  exact results_cell_row rfl _ _ w.heap.size 81 _ (0, 0) _ rfl G8.out Try.underlying81 rfl (by rw [size81, List.size_toArray, bvs_length]; exact congrArg some HS4.out.symm)
end Go.Proofs.Ytcgapfmdpchemaa
