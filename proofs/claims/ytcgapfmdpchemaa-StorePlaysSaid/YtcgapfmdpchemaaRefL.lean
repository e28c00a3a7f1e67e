/- The walk of the reference's wrong. -/
import Derived.Test.YtcgapfmdpchemaaRefJ
namespace Go.Proofs.Ytcgapfmdpchemaa
open Go.RowKit
theorem seen_at {l : List Pt} {i k : Nat} (hi : i < l.length) (hk : k < i) (h : (l[k]'(by omega)).name = l[i].name) : seenB (namesTo l i) l[i].name = true := by
  rw [seenB_iff]
  unfold namesTo
  refine List.mem_reverse.2 (List.mem_map.2 ⟨l[k]'(by omega), ?_, h⟩)
  rw [List.mem_take_iff_getElem]
  exact ⟨k, by omega, rfl⟩
theorem seen_no {l : List Pt} {i : Nat} (hi : i < l.length) (h : ∀ k, (hk : k < i) → (l[k]'(by omega)).name ≠ l[i].name) : seenB (namesTo l i) l[i].name = false := by
  rw [Bool.eq_false_iff]
  intro hs
  rw [seenB_iff] at hs
  unfold namesTo at hs
  obtain ⟨x, hx, hn⟩ := List.mem_map.1 (List.mem_reverse.1 hs)
  rw [List.mem_take_iff_getElem] at hx
  obtain ⟨k, hk, rfl⟩ := hx
  exact h k (by omega) hn
set_option maxRecDepth 1000000 in
set_option maxHeartbeats 4000000 in
theorem rwrong_any (w : World) (v : Value) (l : List Pt) (hp : PutsAt w v l) (hl : l.length ≤ 1000000) : Calls Try.prog 76 #[v] w fun e w' => (∃ r : Nat, e = .returned (iv r) ∧ RefusedIs l r) ∧ ∃ k, w' = w.drewN k := by
  obtain ⟨A, c, rfl, -, -, -⟩ := id hp
  have HP := Lib.hid hp; clear hp
  by_cases h100 : 100 < l.length
  · have hi : (100 : Int) < (l.length : Int) := by omega
    go_enter Try.func76, Try.ntmps76
    go_wp2
    go_ret
    exact ⟨⟨3, rfl, .inl ⟨rfl, .inl h100⟩⟩, 0, rfl⟩
  have hi : ¬ (100 : Int) < (l.length : Int) := by omega
  have hl100 : l.length ≤ 100 := by omega
  have HL := Lib.hid hl100
  clear h100
  go_enter Try.func76, Try.ntmps76
  go_wp2
  go_loopw [3] (fun i wr => ∃ k : Nat, k ≤ l.length ∧ i = .int .i64 k ∧ wr = w ∧ Hid (∀ j, (h : j < l.length) → j < k → l[j].long = false)) (fun i _ => l.length - (intOf i).toNat)
  case atStart => exact ⟨0, by omega, rfl, rfl, Lib.hid fun j _ hj => by omega⟩
  case round =>
    obtain ⟨k, hk, rfl, rfl, HB⟩ := hrel
    by_cases hlt : k < l.length
    · have hki : (k : Int) < (l.length : Int) := by omega
      obtain ⟨b, off, c', he, h0, h1, -⟩ := HP.out.cells hlt
      cases he
      have HNX : Hid (l[k].long = false → ∀ j, (h : j < l.length) → j < k + 1 → l[j].long = false) := Lib.hid fun h1 j hj hjk => by
        rcases Nat.lt_succ_iff_lt_or_eq.1 hjk with hlt | rfl
        · exact HB.out j hj hlt
        · exact h1
      have HLG : Hid (l[k].long = true → RefusedIs l 3) := Lib.hid fun h => .inl ⟨rfl, .inr (List.any_eq_true.2 ⟨_, List.getElem_mem hlt, h⟩)⟩
      clear HB
      generalize l[k] = x at *
      by_cases hn : 64 < x.name.size
      · have hni : (64 : Int) < (x.name.size : Int) := by omega
        have HR := Lib.hid (HLG.out (by simp [Pt.long, hn]))
        clear HLG HNX
        go_wp2
        go_ret
        exact ⟨⟨3, rfl, HR.out⟩, 0, rfl⟩
      · have hni : ¬ (64 : Int) < (x.name.size : Int) := by omega
        by_cases hv : 60000 < x.value.size
        · have hvi : (60000 : Int) < (x.value.size : Int) := by omega
          have HR := Lib.hid (HLG.out (by simp [Pt.long, hv]))
          clear HLG HNX
          go_wp2
          go_ret
          exact ⟨⟨3, rfl, HR.out⟩, 0, rfl⟩
        · have hvi : ¬ (60000 : Int) < (x.value.size : Int) := by omega
          have HN := Lib.hid (HNX.out (by simp [Pt.long, hn, hv]))
          clear HLG HNX
          go_wp2
          go_roundw
          case rel => exact ⟨k + 1, by omega, by go_num, trivial, HN⟩
          case measure => simp [intOf]; omega
    · obtain rfl : k = l.length := by omega
      have HANY : Hid (l.any Pt.long = false) := Lib.hid (by
        rw [List.any_eq_false]
        intro x hx
        obtain ⟨j, hj, rfl⟩ := List.getElem_of_mem hx
        rw [HB.out j hj hj]; simp)
      clear HB
      go_wp2
      go_loopw [4] (fun i wr' => ∃ k : Nat, k ≤ l.length ∧ i = .int .i64 k ∧ (∃ q, wr' = wr.drewN q) ∧ Hid (∀ j, (h : j < l.length) → j < k → badAt l j l[j] = false)) (fun i _ => l.length - (intOf i).toNat)
      case atStart => exact ⟨0, by omega, rfl, ⟨0, rfl⟩, Lib.hid fun j _ hj => by omega⟩
      case round =>
        obtain ⟨k, hk, rfl, ⟨q, rfl⟩, HB⟩ := hrel
        by_cases hlt : k < l.length
        · have hki : (k : Int) < (l.length : Int) := by omega
          have HNX : Hid (badAt l k l[k] = false → ∀ j, (h : j < l.length) → j < k + 1 → badAt l j l[j] = false) := Lib.hid fun h1 j hj hjk => by
            rcases Nat.lt_succ_iff_lt_or_eq.1 hjk with hlt | rfl
            · exact HB.out j hj hlt
            · exact h1
          have HBD : Hid (badAt l k l[k] = true → RefusedIs l 2) := Lib.hid fun h => .inr (.inl ⟨rfl, HL.out, HANY.out, k, hlt, h⟩)
          have HS1 := Lib.hid (fun (j : Nat) (hj : j < k) (h : (l[j]'(by omega)).name = l[k].name) => seen_at hlt hj h)
          have HS2 := Lib.hid (fun (h : ∀ j, (hj : j < k) → (l[j]'(by omega)).name ≠ l[k].name) => seen_no hlt h)
          have hbd : badAt l k l[k] = (decide (l[k].name.size = 0) || seenB (namesTo l k) l[k].name || (l[k].drop && decide (l[k].value.size ≠ 0))) := rfl
          have HDF := Lib.hid hbd
          clear HB hbd
          obtain ⟨b, off, c', he, h0, h1, h2⟩ := HP.out.cells hlt
          cases he
          generalize hX : l[k] = x at *
          have HX := Lib.hid hX; clear hX
          generalize badAt l k x = bd at *
          by_cases hn : x.name.size = 0
          · have hem := empty_of hn
            have HR := Lib.hid (HBD.out (by rw [HDF.out]; simp [hn]))
            clear HBD HNX HS1 HS2 HDF
            go_wp2
            go_ret
            exact ⟨⟨2, rfl, HR.out⟩, q, rfl⟩
          · have hem := nonempty_of hn
            by_cases hdv : x.drop = true ∧ x.value.size ≠ 0
            · obtain ⟨hd, hvz⟩ := hdv
              rw [hd] at h2
              have hvm := nonempty_of hvz
              have HR := Lib.hid (HBD.out (by rw [HDF.out]; simp [hd, hvz]))
              clear HBD HNX HS1 HS2 HDF
              go_wp2
              go_ret
              exact ⟨⟨2, rfl, HR.out⟩, q, rfl⟩
            · have hdb : (x.drop && decide (x.value.size ≠ 0)) = false := by
                rw [Bool.eq_false_iff]
                intro h
                rw [Bool.and_eq_true, decide_eq_true_iff] at h
                exact hdv h
              have HDF2 : Hid (bd = seenB (namesTo l k) x.name) := Lib.hid (by rw [HDF.out, hdb]; simp [hn])
              have hgo : x.drop = false ∨ (x.drop = true ∧ x.value.size = 0) := by
                cases hd : x.drop
                · exact .inl rfl
                · exact .inr ⟨rfl, Classical.not_not.1 fun h => hdv ⟨hd, h⟩⟩
              clear hdv hdb HDF
              rcases hgo with hd | ⟨hd, hvz⟩
              · rw [hd] at h2
                go_wp2
                go_loopw [5] (fun i wr' => ∃ j : Nat, j ≤ k ∧ i = .int .i64 j ∧ (∃ q, wr' = wr.drewN q) ∧ Hid (∀ i, (h : i < l.length) → i < j → l[i].name ≠ x.name)) (fun i _ => k - (intOf i).toNat)
                case atStart => exact ⟨0, by omega, rfl, ⟨q, rfl⟩, Lib.hid fun j _ hj => by omega⟩
                case round =>
                  obtain ⟨j, hj, rfl, ⟨q2, rfl⟩, HJ⟩ := hrel
                  by_cases hjk : j < k
                  · have hjki : (j : Int) < (k : Int) := by omega
                    have hjl : j < l.length := by omega
                    have hjli : (j : Int) < (l.length : Int) := by omega
                    obtain ⟨b', off', c'', he, g0, -, -⟩ := HP.out.cells hjl
                    cases he
                    have HNX2 : Hid (l[j].name ≠ x.name → ∀ i, (h : i < l.length) → i < j + 1 → l[i].name ≠ x.name) := Lib.hid fun h1 i hi hij => by
                      rcases Nat.lt_succ_iff_lt_or_eq.1 hij with hlt | rfl
                      · exact HJ.out i hi hlt
                      · exact h1
                    have HSJ := Lib.hid (fun h => HS1.out j hjk h)
                    clear HJ
                    generalize l[j].name = nj at *
                    by_cases hne : nj = x.name
                    · have heb : (nj.toList == x.name.toList) = true := by rw [eq_name, decide_eq_true hne]
                      have HR := Lib.hid (HBD.out (by rw [HDF2.out]; exact HSJ.out hne))
                      clear HSJ HNX2 HBD HNX HS1 HS2 HDF2 hne
                      go_wp2
                      go_quiet (fail)
                      go_wp2
                      go_ret
                      exact ⟨⟨2, rfl, HR.out⟩, _, World.drewN_drewN _ _ _⟩
                    · have heb : (nj.toList == x.name.toList) = false := by rw [eq_name, decide_eq_false hne]
                      have HN := Lib.hid (HNX2.out hne)
                      clear HSJ HNX2 hne
                      go_wp2
                      go_quiet (fail)
                      go_wp2
                      go_roundw
                      case rel => exact ⟨j + 1, by omega, by go_num, ⟨_, rfl⟩, HN⟩
                      case measure => simp [intOf]; omega
                  · obtain rfl : j = k := by omega
                    have HN := Lib.hid (HNX.out (by rw [HDF2.out]; exact HS2.out fun i hi => HJ.out i (by omega) hi))
                    clear HJ HBD HNX HS1 HS2 HDF2
                    go_wp2
                    go_roundw
                    case rel => exact ⟨j + 1, by omega, by go_num, ⟨_, rfl⟩, HN⟩
                    case measure => simp [intOf]; omega
              · rw [hd] at h2
                have hvm := empty_of hvz
                go_wp2
                go_loopw [5] (fun i wr' => ∃ j : Nat, j ≤ k ∧ i = .int .i64 j ∧ (∃ q, wr' = wr.drewN q) ∧ Hid (∀ i, (h : i < l.length) → i < j → l[i].name ≠ x.name)) (fun i _ => k - (intOf i).toNat)
                case atStart => exact ⟨0, by omega, rfl, ⟨q, rfl⟩, Lib.hid fun j _ hj => by omega⟩
                case round =>
                  obtain ⟨j, hj, rfl, ⟨q2, rfl⟩, HJ⟩ := hrel
                  by_cases hjk : j < k
                  · have hjki : (j : Int) < (k : Int) := by omega
                    have hjl : j < l.length := by omega
                    have hjli : (j : Int) < (l.length : Int) := by omega
                    obtain ⟨b', off', c'', he, g0, -, -⟩ := HP.out.cells hjl
                    cases he
                    have HNX2 : Hid (l[j].name ≠ x.name → ∀ i, (h : i < l.length) → i < j + 1 → l[i].name ≠ x.name) := Lib.hid fun h1 i hi hij => by
                      rcases Nat.lt_succ_iff_lt_or_eq.1 hij with hlt | rfl
                      · exact HJ.out i hi hlt
                      · exact h1
                    have HSJ := Lib.hid (fun h => HS1.out j hjk h)
                    clear HJ
                    generalize l[j].name = nj at *
                    by_cases hne : nj = x.name
                    · have heb : (nj.toList == x.name.toList) = true := by rw [eq_name, decide_eq_true hne]
                      have HR := Lib.hid (HBD.out (by rw [HDF2.out]; exact HSJ.out hne))
                      clear HSJ HNX2 HBD HNX HS1 HS2 HDF2 hne
                      go_wp2
                      go_quiet (fail)
                      go_wp2
                      go_ret
                      exact ⟨⟨2, rfl, HR.out⟩, _, World.drewN_drewN _ _ _⟩
                    · have heb : (nj.toList == x.name.toList) = false := by rw [eq_name, decide_eq_false hne]
                      have HN := Lib.hid (HNX2.out hne)
                      clear HSJ HNX2 hne
                      go_wp2
                      go_quiet (fail)
                      go_wp2
                      go_roundw
                      case rel => exact ⟨j + 1, by omega, by go_num, ⟨_, rfl⟩, HN⟩
                      case measure => simp [intOf]; omega
                  · obtain rfl : j = k := by omega
                    have HN := Lib.hid (HNX.out (by rw [HDF2.out]; exact HS2.out fun i hi => HJ.out i (by omega) hi))
                    clear HJ HBD HNX HS1 HS2 HDF2
                    go_wp2
                    go_roundw
                    case rel => exact ⟨j + 1, by omega, by go_num, ⟨_, rfl⟩, HN⟩
                    case measure => simp [intOf]; omega
        · obtain rfl : k = l.length := by omega
          have HR : Hid (RefusedIs l 0) := Lib.hid (.inr (.inr ⟨rfl, HL.out, HANY.out, fun ⟨j, hj, hb⟩ => by rw [HB.out j hj hj] at hb; cases hb⟩))
          clear HB
          go_wp2
          go_ret
          exact ⟨⟨0, rfl, HR.out⟩, q, rfl⟩
end Go.Proofs.Ytcgapfmdpchemaa
