/- What the head and the directory say, of a disk that stands for an abstract one. No function is walked here. -/
import Derived.Test.YtcgapfmdpchemaaAbs
namespace Go.Proofs.Ytcgapfmdpchemaa
open Go.RowKit
/-! ### The pages of some bytes read -/
theorem madeB_room (l : List UInt8) (h : l.length ≤ 248) : (madeB l).take 248 = l ++ List.replicate (248 - l.length) 0 := by
  rw [madeB_take l h]
  apply List.ext_getElem?
  intro j
  have hz : zp = List.replicate 256 0 := rfl
  unfold spl
  rw [hz]
  simp only [List.take_zero, List.nil_append, Nat.zero_add, List.getElem?_take, List.getElem?_append, List.getElem?_drop, List.getElem?_replicate]
  grind
theorem parts_drop (n : Nat) (h : 0 < n) : parts n = parts (n - 248) + 1 := by unfold parts; omega
theorem partL_zero (L : List UInt8) : partL L 0 = L.take 248 := by simp [partL]
theorem partL_succ (L : List UInt8) (k : Nat) : partL L (k + 1) = partL (L.drop 248) k := by
  unfold partL; rw [List.drop_drop]; congr 2; omega
theorem rooms_whole (C : Cn) : ∀ (pages : List Nat) (L : List UInt8), pages.length = parts L.length → (∀ k, (h : k < pages.length) → C.page pages[k] = madeB (partL L k)) → (rooms C pages).take L.length = L
  | [], L, hl, _ => by
    have : L.length = 0 := by unfold parts at hl; simp at hl; omega
    rw [List.length_eq_zero_iff.1 this]; rfl
  | q :: r, L, hl, hp => by
    have h0 := hp 0 (by simp)
    simp only [List.getElem_cons_zero, partL_zero] at h0
    have hpos : 0 < L.length := by
      apply Nat.pos_of_ne_zero; intro h
      rw [h] at hl; simp [parts] at hl
    have hr : r.length = parts (L.drop 248).length := by
      rw [List.length_drop]; have := parts_drop L.length hpos; simp only [List.length_cons] at hl; omega
    have ih := rooms_whole C r (L.drop 248) hr (fun k hk => by
      have := hp (k + 1) (by simpa using hk)
      simpa [partL_succ] using this)
    have e1 : rooms C (q :: r) = (C.page q).take 248 ++ rooms C r := rfl
    rw [e1, h0, madeB_room _ (by simp; omega)]
    by_cases hle : L.length ≤ 248
    · have : (L.take 248) = L := List.take_of_length_le hle
      rw [this, List.append_assoc, List.take_left' rfl]
    · have h248 : (L.take 248).length = 248 := by rw [List.length_take]; omega
      rw [h248, Nat.sub_self, List.replicate_zero, List.append_nil]
      rw [List.take_append, h248, List.take_of_length_le (l := L.take 248) (by omega)]
      rw [List.length_drop] at ih
      rw [ih, List.take_append_drop]
/-! ### Heads -/
theorem headB_slice (c z : Nat) (l : List Nat) (hl : l.length ≤ 100) (j m : Nat) (h : j + m ≤ 10 + 2 * l.length) : ((headB c z l).drop j).take m = ((les 4 [c, z] ++ les 2 [l.length] ++ les 2 l).drop j).take m := by
  have hb : (les 4 [c, z] ++ les 2 [l.length] ++ les 2 l).length = 10 + 2 * l.length := by simp only [List.length_append, les_length, List.length_cons, List.length_nil]
  unfold headB
  generalize les 4 [c, z] ++ les 2 [l.length] ++ les 2 l = B at *
  have h1 : (spl zp 0 B).length = 256 := by rw [spl_length _ _ _ (by rw [zp_length]; omega), zp_length]
  apply List.ext_getElem?
  intro i
  simp only [List.getElem?_take, List.getElem?_drop]
  split
  · have h2 : (spl (spl zp 0 B) 252 (le 4 c).reverse)[j + i]? = (spl zp 0 B)[j + i]? := by
      have := spl_take (spl zp 0 B) 252 (le 4 c).reverse (by rw [h1]; omega)
      have h3 := congrArg (fun x => x[j + i]?) this
      simp only [List.getElem?_take] at h3
      rwa [if_pos (by omega), if_pos (by omega)] at h3
    rw [h2]
    unfold spl
    rw [List.take_zero, List.nil_append, List.getElem?_append_left (by omega)]
  · rfl
theorem headB_end (c z : Nat) (l : List Nat) (hl : l.length ≤ 100) : (headB c z l).drop 252 = (le 4 c).reverse := by
  have hb : (les 4 [c, z] ++ les 2 [l.length] ++ les 2 l).length = 10 + 2 * l.length := by simp only [List.length_append, les_length, List.length_cons, List.length_nil]
  unfold headB
  rw [spl_drop]
  rw [spl_length _ _ _ (by rw [zp_length]; omega), zp_length, List.length_reverse, le_length]
theorem headB_is (c z : Nat) (l : List Nat) (hl : l.length ≤ 100) (hz : z < 4294967296) (hll : ∀ q ∈ l, q < 65536) : HeadIs (headB c z l) z l := by
  have e4 : les 4 [c, z] = le 4 c ++ le 4 z := by simp [les]
  have e2 : les 2 [l.length] = le 2 l.length := by simp [les]
  refine ⟨headB_length c z l hl, ?_, ?_, fun i hi => ?_, hl⟩
  · rw [headB_slice c z l hl 8 2 (by omega), e4, e2, List.append_assoc, List.drop_left' (by rw [List.length_append, le_length, le_length]), List.take_left' (le_length 2 _), num_le]
    exact Nat.mod_eq_of_lt (by omega)
  · rw [headB_slice c z l hl 4 4 (by omega), e4, e2, List.append_assoc, List.append_assoc, List.drop_left' (le_length 4 _), List.take_left' (le_length 4 _), num_le]
    exact Nat.mod_eq_of_lt hz
  · rw [headB_slice c z l hl (10 + 2 * i) 2 (by omega), e4, e2, ← List.drop_drop, List.drop_left' (by simp [le_length])]
    have := les_drop l [] i hi
    rw [List.append_nil] at this
    rw [this, num_le]
    exact Nat.mod_eq_of_lt (hll _ (List.getElem_mem hi))
theorem num_mod (l : List UInt8) (h : 0 < l.length) : num l % 256 = (l.getD 0 0).toNat := by
  cases l with
  | nil => simp at h
  | cons b l => rw [num_cons]; have := b.toNat_lt; simp
theorem headNum_low (C : Cn) (q : Nat) (h : (C.page q).length = 256) : headNum C q % 256 = ((C.page q).getD 0 0).toNat := by
  unfold headNum
  rw [num_mod _ (by simp [h])]
  simp [List.getD_eq_getElem?_getD]
theorem endNum_low (C : Cn) (q : Nat) (h : (C.page q).length = 256) : endNum C q % 256 = ((C.page q).getD 255 0).toNat := by
  unfold endNum
  rw [num_mod _ (by simp [h])]
  congr 1
  simp only [List.getD_eq_getElem?_getD]
  rw [List.getElem?_reverse (by simp [h])]
  simp [h]
theorem headNum_headB {C : Cn} {q c z : Nat} {l : List Nat} (hl : l.length ≤ 100) (h : C.page q = headB c z l) (hc : c < 4294967296) : headNum C q = c ∧ endNum C q = c := by
  have e4 : les 4 [c, z] = le 4 c ++ le 4 z := by simp [les]
  constructor
  · unfold headNum
    rw [h, headB_slice c z l hl 0 4 (by omega), e4, List.drop_zero, List.append_assoc, List.append_assoc, List.take_left' (le_length 4 _), num_le]
    exact Nat.mod_eq_of_lt hc
  · unfold endNum
    rw [h, headB_end c z l hl, List.take_of_length_le (by rw [List.length_reverse, le_length]; exact Nat.le_refl 4), List.reverse_reverse, num_le]
    exact Nat.mod_eq_of_lt hc
theorem ofNat_toNat (n : Nat) : (UInt8.ofNat n).toNat = n % 256 := UInt8.toNat_ofNat'
/-- the other head does not count -/
theorem stale {C : Cn} {q c : Nat} (hp : (C.page q).length = 256) (hc : 1 ≤ c) (h255 : (C.page q).getD 255 0 = UInt8.ofNat (c - 1)) (h0 : (C.page q).getD 0 0 = UInt8.ofNat (c + 1) ∨ headNum C q < c) : ¬ (headNum C q = endNum C q ∧ c ≤ headNum C q) := by
  rintro ⟨h1, h2⟩
  rcases h0 with h0 | h0
  · have a := headNum_low C q hp
    have b := endNum_low C q hp
    rw [h0, ofNat_toNat] at a
    rw [h255, ofNat_toNat] at b
    omega
  · omega
section
variable {C : Cn} {A : AD}
theorem Rep.plen (h : Rep C A) {q : Nat} (hq : q < A.n) : (C.page q).length = 256 := C.page_length h.len (by rw [h.n]; exact hq)
theorem Rep.newest (h : Rep C A) : newestTo C 2 = (headB A.change A.dirB.length A.index, A.place, A.change) := by
  have hn := headNum_headB h.ixl h.head h.chb
  have hst := stale (h.plen (q := 1 - A.place) (by have := h.n4; omega)) h.ch h.old255 h.old0
  have hch := h.ch
  rw [newestTo, newestTo, newestTo]
  have hpl := h.place
  have hhead := h.head
  rcases Nat.lt_or_ge A.place 1 with hp | hp
  · have hp0 : A.place = 0 := by omega
    rw [hp0] at hn hst hhead ⊢
    simp only [Nat.sub_zero] at hst
    rw [if_pos (show (zp, 0, 0).2.2 < headNum C 0 ∧ headNum C 0 = endNum C 0 by rw [hn.1, hn.2]; exact ⟨by show 0 < _; omega, rfl⟩)]
    rw [if_neg (by rintro ⟨h1, h2⟩; exact hst ⟨h2, by have : headNum C 0 < headNum C 1 := h1; omega⟩), hhead, hn.1]
  · have hp1 : A.place = 1 := by omega
    rw [hp1] at hn hst hhead ⊢
    simp only [Nat.sub_self] at hst
    have hx : (if (zp, 0, 0).2.2 < headNum C 0 ∧ headNum C 0 = endNum C 0 then (C.page 0, 0, headNum C 0) else (zp, 0, 0)).2.2 < headNum C 1 := by
      rw [hn.1]
      split
      · rename_i hc
        show headNum C 0 < A.change
        apply Nat.lt_of_not_le
        intro hle
        exact hst ⟨hc.2, hle⟩
      · show 0 < A.change; omega
    rw [if_pos ⟨hx, by rw [hn.1, hn.2]⟩, hhead, hn.1]
theorem Rep.dirlen (h : Rep C A) : A.dirB.length ≤ 248 * A.index.length ∧ A.dirB.length ≤ 24800 := by
  have h1 := h.ix.1
  have h2 := h.ixl
  unfold parts at h1
  omega
theorem Rep.flaw (h : Rep C A) {q a : Nat} {f : UInt8} (hq : C.flaws q = some (a, f)) : a < 256 ∧ f ≠ 0 := by
  rw [h.flaws] at hq
  have := h.hurts q a f hq
  exact ⟨this.2.2.1, this.2.2.2⟩
theorem Rep.whole (h : Rep C A) {pages : List Nat} {L : List UInt8} (hp : PagesAre C pages L) {q : Nat} (hq : q ∈ pages) : wholeB (C.page q) = (A.hurts q).isNone := by
  obtain ⟨k, hk, rfl⟩ := List.getElem_of_mem hq
  rw [hp.2 k hk, whole_iff (partL_length L k) (fun a f hf => h.flaw hf), h.flaws]
theorem Rep.read (_ : Rep C A) {pages : List Nat} {L : List UInt8} (hp : PagesAre C pages L) (hall : ∀ q ∈ pages, C.flaws q = none) : (rooms C pages).take L.length = L :=
  rooms_whole C pages L hp.1 fun k hk => by rw [hp.2 k hk, hall _ (List.getElem_mem hk)]; rfl
theorem Rep.used_ix (h : Rep C A) {q : Nat} (hq : q ∈ A.index) : 2 ≤ q ∧ q < A.n := h.rng q (List.mem_append_left _ hq)
theorem Rep.used_es (h : Rep C A) {e : EA} (he : e ∈ A.es) {q : Nat} (hq : q ∈ e.pages) : 2 ≤ q ∧ q < A.n := h.rng q (List.mem_append_right _ (List.mem_flatMap.2 ⟨e, he, hq⟩))
theorem Rep.dir (h : Rep C A) : Dir C A.dirB.length A.index A.des := by
  have hd := h.dirlen
  have hn4 := h.n5
  refine ⟨?_, fun q hq => by rw [h.n]; exact (h.used_ix hq).2, hd.1, fun hw => ?_, h.fit, h.asc, fun e he p hp => ?_, fun e he => ?_, ?_⟩
  · rw [h.newest]
    exact headB_is _ _ _ h.ixl (by omega) fun q hq => by have := (h.used_ix hq).2; omega
  · exact h.read h.ix fun q hq => by
      have := hw q hq
      rw [h.whole h.ix hq] at this
      rw [h.flaws]
      exact Option.isNone_iff_eq_none.1 this
  · obtain ⟨x, hx, rfl⟩ := List.mem_map.1 he
    rw [h.n]; exact (h.used_es hx hp).2
  · obtain ⟨x, hx, rfl⟩ := List.mem_map.1 he
    have := (h.vs x hx).1
    rw [nameBytes_length] at this
    show x.value.size ≤ 248 * x.pages.length
    rw [this]; unfold parts; omega
  · have := enc_ge A.des
    have h2 : (enc A.des).length ≤ 24800 := hd.2
    omega
end
end Go.Proofs.Ytcgapfmdpchemaa
