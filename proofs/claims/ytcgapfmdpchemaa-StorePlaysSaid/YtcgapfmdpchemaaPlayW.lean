/- The walk of StorePlays. -/
import Derived.Test.YtcgapfmdpchemaaPlayC
namespace Go.Proofs.Ytcgapfmdpchemaa
open Go.RowKit
theorem RIs.base {w : World} {B B' eb m : Nat} {A : AD} (h : RIs w B' eb A m) (hB : B ≤ B') : RIs w B eb A m := by
  obtain ⟨hs, ve, vi, vh, ps, h, hm⟩ := h
  refine ⟨hs, ve, vi, vh, ps, ⟨h.d, Nat.le_trans hB h.lo, h.es, h.eq, h.ix, ?_, h.nd, h.eqh⟩, hm⟩
  rcases h.hu with h1 | ⟨g, cap, cur, h1, h2, r⟩
  · exact .inl h1
  · exact .inr ⟨g, cap, cur, h1, Nat.le_trans hB h2, r⟩
theorem play_any {B bd bp bm bs eb et pp m : Nat} {A : AD} (w : World) (s : Ac) (h : Duo w B bd bp bm bs eb et pp A m) (hx : s.x ≤ 9223372036854775807) (hm : m ≤ 4000) (hp : ∀ W, Below B w W → PutsAt W s.pv s.puts) (hl : s.puts.length ≤ 1000000) (hch : A.change + 1 < 4294967296) :
    Calls Try.prog 26 #[.pointer (some ⟨pp, 0, none⟩), .agg #[bv s.what, s.pv, .string s.name, .int .i64 s.x, .int .i64 s.y, bv s.flip]] w fun e w' => PlayR w B bd bp bm eb pp A m e w' := by
  have hlt : s.what.toNat % 10 < 10 := Nat.mod_lt _ (by omega)
  rcases (show s.what.toNat % 10 ≤ 2 ∨ s.what.toNat % 10 = 3 ∨ s.what.toNat % 10 = 4 ∨ s.what.toNat % 10 = 5 ∨ s.what.toNat % 10 = 6 ∨ s.what.toNat % 10 = 7 ∨ s.what.toNat % 10 = 8 ∨ s.what.toNat % 10 = 9 by omega) with hk | hk | hk | hk | hk | hk | hk | hk
  · exact play_do w s h hk hm hp hl hch
  · exact play_get w s h hk
  · exact play_list w s h hk
  · exact play_free w s h hk
  · exact play_fail w s h hk hx
  · exact play_restart w s h hk
  · exact play_damage w s h hk hm
  · exact play_open w s h hk
set_option maxRecDepth 1000000 in
set_option maxHeartbeats 4000000 in
theorem storePlays_any (w : World) (n : Int) (v : Value) (ss : List Ac) (ha : ActsAt w v ss) (hb : ∀ s ∈ ss, s.x ≤ 9223372036854775807) : Calls Try.prog 5 #[.int .i64 n, v] w fun e w' => e = .returned (.bool true) ∧ Below w.heap.size w w' := by
  obtain ⟨A2, c2, rfl, -, -, -⟩ := id ha.1
  have HA := Lib.hid ha; have HXB := Lib.hid hb; clear ha hb
  go_enter Try.func5, Try.ntmps5
  go_wp2_with fail
  refine (great_any w _ ss 30 HA.out).mono ?_
  rintro e w1 ⟨⟨b, rfl, hb⟩, b1⟩
  have B1 := Lib.hid b1; have HSM := Lib.hid hb
  clear b1 hb
  cases b with
  | true =>
    go_wp2_with fail
    refine (shown_any w1).mono ?_
    rintro e w3 ⟨rfl, b3⟩
    have HB3 := Lib.hid (below_more B1.out b3 (Nat.le_refl _)); clear b3
    go_wp2
    go_ret
    exact ⟨rfl, HB3.out⟩
  | false =>
    obtain ⟨hlen, hputs⟩ := HSM.out rfl
    have HLEN := Lib.hid (show ss.length ≤ 30 by omega); have HPUTS := Lib.hid hputs
    clear hlen hputs HSM
    by_cases hbad : n < 4 ∨ 4096 < n
    · go_wp2_with fail
      refine (newDisk_bad w1 n hbad).mono ?_
      rintro e w2 ⟨rfl, rfl⟩
      go_wp2_with fail
      refine (rnew_bad _ n hbad).mono ?_
      rintro e w3 ⟨rfl, rfl⟩
      go_wp2_with fail
      refine (shown_any _).mono ?_
      rintro e w4 ⟨rfl, b4⟩
      have HB4 := Lib.hid (below_more B1.out b4 (Nat.le_refl _)); clear b4
      go_wp2
      go_ret
      exact ⟨rfl, HB4.out⟩
    · obtain ⟨N, rfl⟩ : ∃ N : Nat, n = N := ⟨n.toNat, by omega⟩
      have h4 : 4 ≤ N := by omega
      have h5 : N ≤ 4096 := by omega
      clear hbad
      go_wp2_with fail
      refine (newDisk_fresh w1 N h4 h5).mono ?_
      rintro e w2 ⟨bd, rfl, ⟨bp, bm, hd2, hf2⟩, b2⟩
      have B2 := Lib.hid (below_more B1.out b2 (Nat.le_refl _))
      have HFN : Hid (w.heap.size ≤ bd ∧ w.heap.size ≤ bp ∧ w.heap.size ≤ bm) := Lib.hid (by have := B1.out.size; obtain ⟨x, y, z⟩ := hf2; omega)
      have HD2 : Hid (AtD w2 bd bp bm (newA N)) := Lib.hid ⟨_, hd2, rep_new N h4 h5⟩; clear hd2 hf2 b2 B1
      go_wp2_with fail
      refine (rnew_ok w2 N h4 h5).mono ?_
      rintro e w3 ⟨eb, rfl, hr3, b3⟩
      have HD3 := Lib.hid (HD2.out.below b3 (Nat.le_refl _))
      have HR3 := Lib.hid (hr3.base B2.out.size)
      have B3 := Lib.hid (below_more B2.out b3 (Nat.le_refl _))
      clear b3 hr3 HD2 B2
      go_wp2_with fail
      refine (s_openT HD3.out).mono ?_
      rintro e w4 ⟨b4, hor⟩
      obtain ⟨-, bs, rfl, hs4⟩ := hor.resolve_right (fun h => h.1 (state_whole (fun _ => rfl) rfl 0))
      have HD4 := Lib.hid (HD3.out.below b4 (Nat.le_refl _)); have HR4 := Lib.hid (HR3.out.below b4 (Nat.le_refl _))
      have HS4 := Lib.hid hs4; have B4 := Lib.hid (below_more B3.out b4 (Nat.le_refl _))
      clear b4 hs4 hor HD3 HR3 B3
      go_wp2_with fail
      refine (ropen_any w4 HR4.out (by show N ≠ 0; omega)).mono ?_
      rintro e w5 ⟨b5, hor⟩
      obtain ⟨-, et, rfl, ht5⟩ := hor.resolve_right (fun h => h.1 (state_whole (fun _ => rfl) rfl 0))
      have HD5 := Lib.hid (HD4.out.below b5 (Nat.le_refl _)); have HR5 := Lib.hid (HR4.out.below b5 (Nat.le_refl _))
      have HS5 := Lib.hid (show StT w5 bs bd from row_below HS4.out b5 (Nat.le_refl _)); have HT5 := Lib.hid ht5
      have B5 := Lib.hid (below_more B4.out b5 (Nat.le_refl _))
      clear b5 ht5 hor HD4 HR4 HS4 B4
      have b6 : Below w5.heap.size w5 (w5.alloc (.cells #[.pointer (some ⟨bd, 0, none⟩), .pointer (some ⟨bs, 0, none⟩), .pointer (some ⟨eb, 0, none⟩), .pointer (some ⟨et, 0, none⟩)] 64)) := (Below.refl _ w5).alloc (Nat.le_refl _) _
      have HD6 := Lib.hid (show Duo (w5.alloc (.cells #[.pointer (some ⟨bd, 0, none⟩), .pointer (some ⟨bs, 0, none⟩), .pointer (some ⟨eb, 0, none⟩), .pointer (some ⟨et, 0, none⟩)] 64)) w.heap.size bd bp bm bs eb et w5.heap.size (newA N) 0 from
        ⟨heap_alloc_new w5 _, row_below HS5.out b6 (Nat.le_refl _), HD5.out.below b6 (Nat.le_refl _), HT5.out.below b6 (Nat.le_refl _), HR5.out.below b6 (Nat.le_refl _), HFN.out, B5.out.size, Nat.le_trans B5.out.size b6.size⟩)
      have B6 := Lib.hid (below_more B5.out b6 (Nat.le_refl _))
      have hl63 : ss.length ≤ 9223372036854775807 := by have := HLEN.out; omega
      clear b6
      go_wp2
      go_loopw [12] (fun i wr => ∃ k bs et : Nat, ∃ A : AD, k ≤ ss.length ∧ i = .int .i64 k ∧ Hid (Duo wr w.heap.size bd bp bm bs eb et w5.heap.size A k) ∧ A.change ≤ 1 + k ∧ Below w.heap.size w wr) (fun i _ => ss.length - (intOf i).toNat)
      case atStart => exact ⟨0, bs, et, newA N, by omega, rfl, HD6, Nat.le_refl _, B6.out⟩
      case round =>
        obtain ⟨k, bs, et, A, hk, rfl, HD, hch, hbr⟩ := hrel
        by_cases hlt : k < ss.length
        · have hki : (k : Int) < (ss.length : Int) := by omega
          obtain ⟨b, off, c', he, hc⟩ := (HA.out.below hbr (Nat.le_refl _)).cells hlt
          cases he
          have d0 : wr.cell? ⟨b, off + k * 6, none⟩ = some (bv ss[k].what) := hc 0 (by omega)
          have d1 : wr.cell? ⟨b, off + k * 6 + 1, none⟩ = some ss[k].pv := hc 1 (by omega)
          have d2 : wr.cell? ⟨b, off + k * 6 + 2, none⟩ = some (.string ss[k].name) := hc 2 (by omega)
          have d3 : wr.cell? ⟨b, off + k * 6 + 3, none⟩ = some (.int .i64 ss[k].x) := hc 3 (by omega)
          have d4 : wr.cell? ⟨b, off + k * 6 + 4, none⟩ = some (.int .i64 ss[k].y) := hc 4 (by omega)
          have d5 : wr.cell? ⟨b, off + k * 6 + 5, none⟩ = some (bv ss[k].flip) := hc 5 (by omega)
          have HPK := Lib.hid (show ∀ W, Below w.heap.size w W → PutsAt W ss[k].pv ss[k].puts from fun W hW => (HA.out.2 _ (List.getElem_mem hlt)).below hW (Nat.le_refl _))
          have HXK := Lib.hid (HXB.out _ (List.getElem_mem hlt))
          have HLK := Lib.hid (show ss[k].puts.length ≤ 1000000 from Nat.le_trans (HPUTS.out _ (List.getElem_mem hlt)).1 (by omega))
          obtain ⟨Ap, lp, cp, hpv⟩ : ∃ Ap lp cp, ss[k].pv = .slice Ap lp cp := by
            obtain ⟨a, c, h, _⟩ := HPK.out w (Below.refl _ _)
            exact ⟨_, _, _, h⟩
          generalize ss[k] = s at *
          have HPV := Lib.hid hpv
          rw [hpv] at d1
          have HBR := Lib.hid hbr
          have HCH := Lib.hid hch
          clear hc hbr hpv hch
          unfold bv at d0 d5
          go_wp2_with fail
          have hpl := play_any wr s HD.out HXK.out (by have := HLEN.out; omega) (fun W hW => HPK.out W (HBR.out.trans hW)) HLK.out (by have := HCH.out; have := HLEN.out; omega)
          rw [HPV.out] at hpl
          unfold bv at hpl
          refine hpl.mono ?_
          clear hpl
          rintro e w7 ⟨rfl, bs7, et7, A7, hd7, hc7, hb7⟩
          have HD7 := Lib.hid hd7; have HC7 := Lib.hid hc7; have HB7 := Lib.hid (HBR.out.trans hb7)
          clear hd7 hc7 hb7 d0 d1 d2 d3 d4 d5
          go_wp2_with fail
          refine (s_down HD7.out.sess).mono ?_
          rintro e w8 ⟨rfl, rfl⟩
          go_wp2_with fail
          refine (rdown_any _ HD7.out.r).mono ?_
          rintro e w9 ⟨rfl, rfl⟩
          have hdd : (A7.down != A7.down) = false := by simp
          generalize hdn : A7.down = dn at *
          have HDN := Lib.hid hdn; clear hdn
          go_wp2
          go_roundw
          case rel => exact ⟨k + 1, bs7, et7, A7, by omega, by go_num, HD7, by have := HC7.out; have := HCH.out; omega, HB7.out⟩
          case measure => simp [intOf]; omega
        · obtain rfl : k = ss.length := by omega
          have HBR := Lib.hid hbr; clear hbr
          go_wp2_with fail
          refine (shown_any wr).mono ?_
          rintro e w7 ⟨rfl, b7⟩
          have HB7 := Lib.hid (below_more HBR.out b7 (Nat.le_refl _)); clear b7
          go_wp2
          go_ret
          exact ⟨rfl, HB7.out⟩
end Go.Proofs.Ytcgapfmdpchemaa
