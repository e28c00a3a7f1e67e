/- The walk of find: the binary search for a name among the entries. -/
import Derived.Test.YtcgapfmdpchemaaEnt
import Derived.Lib.Bytealg
namespace Go.Proofs.Ytcgapfmdpchemaa
open Go.RowKit
def cmpB (a b : ByteArray) : Int := Lib.compareBytes a.data.toList b.data.toList
def nlt (a b : ByteArray) : Prop := a.data.toList < b.data.toList
theorem cmp_lt_iff (a b : List UInt8) : Lib.compareBytes a b < 0 ↔ a < b := by
  induction a generalizing b with
  | nil => cases b <;> simp [Lib.compareBytes]
  | cons x a ih =>
    cases b with
    | nil => simp [Lib.compareBytes]
    | cons y b =>
      unfold Lib.compareBytes
      by_cases h1 : x < y
      · simp [h1, List.cons_lt_cons_iff]
      · by_cases h2 : y < x
        · have : x ≠ y := by rintro rfl; exact h1 h2
          simp [h1, h2, List.cons_lt_cons_iff, this]
        · obtain rfl : x = y := by
            have h3 := UInt8.not_lt.1 h1
            have h4 := UInt8.not_lt.1 h2
            exact UInt8.le_antisymm h4 h3
          simp [h1, ih]
theorem cmp_eq_iff (a b : List UInt8) : Lib.compareBytes a b = 0 ↔ a = b := by
  induction a generalizing b with
  | nil => cases b <;> simp [Lib.compareBytes]
  | cons x a ih =>
    cases b with
    | nil => simp [Lib.compareBytes]
    | cons y b =>
      unfold Lib.compareBytes
      by_cases h1 : x < y
      · have : x ≠ y := by rintro rfl; exact UInt8.lt_irrefl _ h1
        simp [h1, this]
      · by_cases h2 : y < x
        · have : x ≠ y := by rintro rfl; exact h1 h2
          simp [h1, h2, this]
        · obtain rfl : x = y := UInt8.le_antisymm (UInt8.not_lt.1 h2) (UInt8.not_lt.1 h1)
          simp [h1, ih]
theorem ba_ext {a b : ByteArray} (h : a.data.toList = b.data.toList) : a = b := by
  cases a; cases b; simp at h; rw [h]
theorem cmpB_lt (a b : ByteArray) : cmpB a b < 0 ↔ nlt a b := cmp_lt_iff _ _
theorem cmpB_eq (a b : ByteArray) : cmpB a b = 0 ↔ a = b := by
  unfold cmpB; rw [cmp_eq_iff]; exact ⟨ba_ext, fun h => by rw [h]⟩
theorem nlt_trans {a b c : ByteArray} (h : nlt a b) (k : nlt b c) : nlt a c := List.lt_trans h k
theorem nlt_irrefl (a : ByteArray) : ¬ nlt a a := List.lt_irrefl _
instance (a b : ByteArray) : Decidable (nlt a b) := inferInstanceAs (Decidable (_ < _))
/-- the names are ascending -/
def Asc (es : List DE) : Prop := es.Pairwise fun x y => nlt x.name y.name
/-- where a name stands, or would stand -/
def atB (es : List DE) (name : ByteArray) : Nat := es.findIdx fun e => ¬ nlt e.name name
def isB (es : List DE) (name : ByteArray) : Bool := es.any fun e => decide (e.name = name)
/-- what the search finds -/
theorem find_spec {es : List DE} (hs : Asc es) {name : ByteArray} {i : Nat} (hi : i ≤ es.length) (h1 : ∀ j, (h : j < es.length) → j < i → nlt es[j].name name) (h2 : ∀ j, (h : j < es.length) → i ≤ j → ¬ nlt es[j].name name) :
    i = atB es name ∧ (isB es name = true ↔ ∃ h : i < es.length, es[i].name = name) := by
  constructor
  · unfold atB
    rcases Nat.lt_trichotomy i (es.findIdx fun e => ¬ nlt e.name name) with h | h | h
    · have hlt : i < es.length := Nat.lt_of_lt_of_le h List.findIdx_le_length
      have := List.not_of_lt_findIdx h
      exact absurd (by simpa using this) (h2 i hlt (Nat.le_refl _))
    · exact h
    · have hlt : (es.findIdx fun e => ¬ nlt e.name name) < es.length := by omega
      have := List.findIdx_getElem (w := hlt)
      exact absurd (h1 _ hlt h) (by simpa using this)
  · constructor
    · intro h
      obtain ⟨e, he, hn⟩ := List.any_eq_true.1 h
      obtain rfl := of_decide_eq_true hn
      obtain ⟨j, hj, rfl⟩ := List.mem_iff_getElem.1 he
      have hij : i ≤ j := by
        refine Nat.le_of_not_lt fun hji => ?_
        exact nlt_irrefl _ (h1 j hj hji)
      rcases Nat.lt_or_eq_of_le hij with h | rfl
      · exact absurd ((List.pairwise_iff_getElem.1 hs) i j (by omega) hj h) (h2 i (by omega) (Nat.le_refl _))
      · exact ⟨hj, rfl⟩
    · rintro ⟨h, rfl⟩
      exact List.any_eq_true.2 ⟨_, List.getElem_mem h, by simp⟩
theorem nlt_of_le {es : List DE} (hs : Asc es) {name : ByteArray} {i j : Nat} (hi : i < es.length) (hj : j < es.length) (hij : i ≤ j) (h : nlt es[j].name name) : nlt es[i].name name := by
  rcases Nat.lt_or_eq_of_le hij with h' | rfl
  · exact nlt_trans ((List.pairwise_iff_getElem.1 hs) i j hi hj h') h
  · exact h
set_option maxHeartbeats 400000 in
theorem cmpString_any (a b : ByteArray) (w : World) : Calls Try.prog 80 #[.string a, .string b] w fun e w' => e = .returned (.int .i64 (cmpB a b)) ∧ w = w' := by
  go_enter Try.func80, Try.ntmps80
  go_wp2
  rw [run_callFunc_extern Try.func83 (by kernel_rfl) (by kernel_rfl) (by kernel_rfl) (e := Extern.BytealgCompare.compare) (by kernel_rfl), Lib.run_compareString]
  simp only [Result.andThen]
  rw [Oper.upon_value]
  go_wp2
  go_ret
  exact ⟨rfl, rfl⟩
set_option maxHeartbeats 400000 in
theorem compare_any (a b : ByteArray) (w : World) : Calls Try.prog 63 #[.string a, .string b] w fun e w' => e = .returned (.int .i64 (cmpB a b)) ∧ w = w' := by
  go_enter Try.func63, Try.ntmps63
  go_wp2_with (go_at_call 80; refine (cmpString_any _ _ _).mono ?_; rintro e w' ⟨rfl, rfl⟩)
  go_ret
  exact ⟨rfl, rfl⟩
set_option maxHeartbeats 400000 in
theorem find1_any (a b : ByteArray) (n : Int) (A : Option Addr) (l c : Nat) (w : World) : Calls Try.prog 62 #[.agg #[.string a, .int .i64 n, .slice A l c], .string b] w fun e w' => e = .returned (.int .i64 (cmpB a b)) ∧ Below w.heap.size w w' := by
  go_enter Try.func62, Try.ntmps62
  go_wp2_with (go_at_call 63; refine (compare_any _ _ _).mono ?_; rintro e w' ⟨rfl, rfl⟩)
  go_ret
  exact ⟨rfl, (Below.refl _ w).alloc (Nat.le_refl _) _⟩
def ents (ps : List (DE × Value)) : List DE := ps.map (·.1)
theorem ents_length (ps : List (DE × Value)) : (ents ps).length = ps.length := List.length_map ..
theorem ents_at (ps : List (DE × Value)) (j : Nat) (h : j < (ents ps).length) : (ents ps)[j] = (ps[j]'(by rwa [ents_length] at h)).1 := by simp [ents]
set_option maxRecDepth 1000000 in
set_option maxHeartbeats 2000000 in
theorem search_any (w : World) (v : Value) (ps : List (DE × Value)) (h : EntRd w v ps) (hs : Asc (ents ps)) (hlen : ps.length ≤ 1000000) (name : ByteArray) :
    Calls Try.prog 61 #[v, .string name, .func (.func 62) #[] #[]] w fun e w' => e = .returned (.tuple #[iv (atB (ents ps) name), .bool (isB (ents ps) name)]) ∧ Below w.heap.size w w' := by
  obtain ⟨A, c, rfl, hnc, hcm, -⟩ := h.rd
  go_enter Try.func61, Try.ntmps61
  go_wp2
  go_loopw [9, 10] (fun a b wr => ∃ lo hi : Nat, a = .int .i64 lo ∧ b = .int .i64 hi ∧ lo ≤ hi ∧ hi ≤ ps.length ∧ Below w.heap.size w wr ∧
      Hid (∀ j, (h : j < ps.length) → j < lo → nlt ps[j].1.name name) ∧ Hid (∀ j, (h : j < ps.length) → hi ≤ j → ¬ nlt ps[j].1.name name))
    (fun a b _ => (intOf b).toNat - (intOf a).toNat)
  case atStart => exact ⟨0, ps.length, rfl, rfl, by omega, by omega, Below.refl _ _, Lib.hid fun j _ hj => by omega, Lib.hid fun j h hj => by omega⟩
  case round =>
    obtain ⟨lo, hi, rfl, rfl, hlh, hhl, hbr, H1, H2⟩ := hrel
    have hr := h.below hbr (Nat.le_refl _)
    by_cases hlt : lo < hi
    · have hlti : (lo : Int) < (hi : Int) := by omega
      have hm : (lo + hi) / 2 < ps.length := by omega
      obtain ⟨b, off, c', he, h0, h1, h2⟩ := hr.cells hm
      cases he
      have mono : ∀ i j, (hi' : i < ps.length) → (hj : j < ps.length) → i ≤ j → nlt ps[j].1.name name → nlt ps[i].1.name name := fun i j hi' hj hij hn => by
        have := nlt_of_le hs (i := i) (j := j) (by rwa [ents_length]) (by rwa [ents_length]) hij (name := name)
        simp only [ents_at] at this
        exact this hn
      obtain ⟨A2, c2, hsl, -⟩ := hr.at_ _ (List.getElem_mem hm)
      have H3 := Lib.hid (mono · ((lo + hi) / 2) · hm)
      have H4 := Lib.hid (mono ((lo + hi) / 2) · hm ·)
      rw [hsl] at h2
      have hcz := cmpB_lt ps[(lo + hi) / 2].1.name name
      generalize hE : ps[(lo + hi) / 2].1 = e at *
      have hm1 : lo ≤ (lo + hi) / 2 := by omega
      have hm2 : (lo + hi) / 2 < hi := by omega
      clear hE mono hsl
      unfold iv at h1
      go_wp2_with fail
      refine (find1_any _ _ _ _ _ _ _).mono ?_
      rintro e' w1 ⟨rfl, b1⟩
      have d1 := hbr.trans (b1.mono hbr.size)
      clear h0 h1 h2 h hr
      generalize hz : cmpB e.name name = z at *
      have HZ := Lib.hid hz; clear hz
      by_cases hn : nlt e.name name
      · have hz0 : z < 0 := hcz.2 hn
        have HN := Lib.hid hn; have HCZ := Lib.hid hcz; clear hn hcz
        go_wp2
        go_roundw
        case rel => exact ⟨(lo + hi) / 2 + 1, hi, by go_num, rfl, by omega, hhl, d1, Lib.hid fun j hj hjm => H3.out j hj (by omega) HN.out, H2⟩
        case measure => simp [intOf]; omega
      · have hz0 : ¬ z < 0 := fun hz0 => hn (hcz.1 hz0)
        have HN := Lib.hid hn; have HCZ := Lib.hid hcz; clear hn hcz
        go_wp2
        go_roundw
        case rel => exact ⟨lo, (lo + hi) / 2, rfl, by go_num, by omega, by omega, d1, H1, Lib.hid fun j hj hjm hn => HN.out (H4.out j hj hjm hn)⟩
        case measure => simp [intOf]; omega
    · obtain rfl : lo = hi := by omega
      have hf := find_spec hs (name := name) (i := lo) (by rw [ents_length]; exact hhl) (fun j hj hjl => by rw [ents_at]; exact H1.out j (by rwa [ents_length] at hj) hjl) (fun j hj hjl => by rw [ents_at]; exact H2.out j (by rwa [ents_length] at hj) hjl)
      obtain ⟨hf1, hf2⟩ := hf
      have HF1 := Lib.hid hf1; clear hf1
      by_cases hlt2 : lo < ps.length
      · have hlti : (lo : Int) < (ps.length : Int) := by omega
        obtain ⟨b, off, c', he, h0, h1, h2⟩ := hr.cells hlt2
        cases he
        obtain ⟨A2, c2, hsl, -⟩ := hr.at_ _ (List.getElem_mem hlt2)
        rw [hsl] at h2
        have hcz := cmpB_eq ps[lo].1.name name
        have hea : (∃ h : lo < (ents ps).length, (ents ps)[lo].name = name) ↔ ps[lo].1.name = name := by
          constructor
          · rintro ⟨h, hh⟩; rwa [ents_at] at hh
          · intro hh; exact ⟨by rwa [ents_length], by rwa [ents_at]⟩
        have his : isB (ents ps) name = decide (cmpB ps[lo].1.name name = 0) := by
          rw [Bool.eq_iff_iff, decide_eq_true_eq, hcz]; exact hf2.trans hea
        generalize hE : ps[lo].1 = e at *
        have HIS := Lib.hid his
        clear hE hsl hf2 hea hcz his
        unfold iv at h1
        go_wp2_with fail
        refine (find1_any _ _ _ _ _ _ _).mono ?_
        rintro e' w1 ⟨rfl, b1⟩
        have d1 := hbr.trans (b1.mono hbr.size)
        generalize hz : cmpB e.name name = z at *
        clear h0 h1 h2 h hr hz
        have hlt2i : ¬ lo < lo := hlt
        by_cases hz0 : z = 0
        · subst hz0
          go_wp2
          go_ret2
          exact ⟨by rw [← HF1.out, HIS.out]; rfl, d1⟩
        · go_wp2
          go_ret2
          exact ⟨by rw [← HF1.out, HIS.out]; simp [hz0, iv], d1⟩
      · have hlti : ¬ (lo : Int) < (ps.length : Int) := by omega
        have his : isB (ents ps) name = false := by
          rw [Bool.eq_false_iff]
          intro hh
          obtain ⟨hh, _⟩ := hf2.1 hh
          rw [ents_length] at hh
          omega
        have HIS := Lib.hid his
        clear hf2 his h hr
        go_wp2
        go_ret2
        exact ⟨by rw [← HF1.out, HIS.out]; rfl, hbr⟩
set_option maxHeartbeats 400000 in
theorem find_any (w : World) (v : Value) (ps : List (DE × Value)) (h : EntRd w v ps) (hs : Asc (ents ps)) (hlen : ps.length ≤ 1000000) (name : ByteArray) :
    Calls Try.prog 36 #[v, .string name] w fun e w' => e = .returned (.tuple #[iv (atB (ents ps) name), .bool (isB (ents ps) name)]) ∧ Below w.heap.size w w' := by
  go_enter Try.func36, Try.ntmps36
  go_wp2_with fail
  refine (search_any w v ps h hs hlen name).mono ?_
  rintro e w' ⟨rfl, b⟩
  go_wp2
  go_ret2
  exact ⟨rfl, b⟩
end Go.Proofs.Ytcgapfmdpchemaa
