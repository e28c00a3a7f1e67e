/- The abstract disk, and how a disk's bytes stand for it. No function is walked here. -/
import Derived.Test.YtcgapfmdpchemaaDoF
import Derived.Test.YtcgapfmdpchemaaDamage
namespace Go.Proofs.Ytcgapfmdpchemaa
open Go.RowKit
/-- an entry with its value -/
structure EA where
  name : ByteArray
  value : ByteArray
  pages : List Nat
def EA.de (e : EA) : DE := ⟨e.name, e.value.size, e.pages⟩
/-- what a disk is -/
structure AD where
  n : Nat
  fuse : Int
  down : Bool
  es : List EA
  index : List Nat
  hurts : Nat → Option (Nat × UInt8)
  change : Nat
  place : Nat
def AD.des (A : AD) : List DE := A.es.map EA.de
def AD.dirB (A : AD) : List UInt8 := enc A.des
def AD.used (A : AD) : List Nat := A.index ++ A.es.flatMap (·.pages)
/-- a page with the bits of a byte turned -/
def hurtP (P : List UInt8) : Option (Nat × UInt8) → List UInt8
  | none => P
  | some (a, f) => P.set a (P.getD a 0 ^^^ f)
/-- part k of some bytes -/
def partL (L : List UInt8) (k : Nat) : List UInt8 := (L.drop (248 * k)).take 248
/-- some pages hold some bytes, but for the damage -/
def PagesAre (C : Cn) (pages : List Nat) (L : List UInt8) : Prop :=
  pages.length = parts L.length ∧ ∀ k, (h : k < pages.length) → C.page pages[k] = hurtP (madeB (partL L k)) (C.flaws pages[k])
structure Rep (C : Cn) (A : AD) : Prop where
  n : C.n = A.n
  fuse : C.fuse = A.fuse
  down : C.down = A.down
  flaws : C.flaws = A.hurts
  len : C.bytes.length = 256 * C.n
  n4 : 4 ≤ A.n
  n5 : A.n ≤ 4096
  fuseb : A.fuse ≤ 9223372036854775807
  place : A.place ≤ 1
  ch : 1 ≤ A.change
  chb : A.change < 4294967296
  head : C.page A.place = headB A.change A.dirB.length A.index
  old255 : (C.page (1 - A.place)).getD 255 0 = UInt8.ofNat (A.change - 1)
  old0 : (C.page (1 - A.place)).getD 0 0 = UInt8.ofNat (A.change + 1) ∨ headNum C (1 - A.place) < A.change
  ix : PagesAre C A.index A.dirB
  vs : ∀ e ∈ A.es, PagesAre C e.pages (nameBytes e.value)
  hurts : ∀ q a f, A.hurts q = some (a, f) → 2 ≤ q ∧ q < A.n ∧ a < 256 ∧ f ≠ 0
  nodup : A.used.Nodup
  rng : ∀ q ∈ A.used, 2 ≤ q ∧ q < A.n
  asc : Asc A.des
  fit : ∀ e ∈ A.des, e.fits
  ixl : A.index.length ≤ 100
/-! ### Sums -/
theorem plainTo_congr {L M : List UInt8} {k : Nat} (h : ∀ j, j < k → L.getD j 0 = M.getD j 0) : plainTo L k = plainTo M k := by
  induction k with
  | zero => rfl
  | succ k ih => simp only [plainTo]; rw [ih fun j hj => h j (by omega), h k (by omega)]
theorem placedTo_congr {L M : List UInt8} {k : Nat} (h : ∀ j, j < k → L.getD j 0 = M.getD j 0) : placedTo L k = placedTo M k := by
  induction k with
  | zero => rfl
  | succ k ih => simp only [placedTo]; rw [ih fun j hj => h j (by omega), h k (by omega)]
theorem sumB_congr {L M : List UInt8} (h : ∀ j, j < 248 → L.getD j 0 = M.getD j 0) : sumB L = sumB M := by
  unfold sumB; rw [plainTo_congr h, placedTo_congr h]
theorem spl_take (L : List UInt8) (off : Nat) (cs : List UInt8) (h : off ≤ L.length) : (spl L off cs).take off = L.take off := by
  unfold spl
  rw [List.append_assoc, List.take_append_of_le_length (by rw [List.length_take]; omega), List.take_take, Nat.min_self]
theorem spl_drop (L : List UInt8) (off : Nat) (cs : List UInt8) (h : off + cs.length = L.length) : (spl L off cs).drop off = cs := by
  unfold spl
  rw [List.append_assoc, List.drop_append_of_le_length (by rw [List.length_take]; omega), List.drop_of_length_le (by rw [List.length_take]; omega), List.nil_append, List.drop_of_length_le (by omega), List.append_nil]
theorem getD_take {L : List UInt8} {k j : Nat} (h : j < k) : (L.take k).getD j 0 = L.getD j 0 := by
  simp [List.getD_eq_getElem?_getD, h]
theorem madeB_take (l : List UInt8) (h : l.length ≤ 248) : (madeB l).take 248 = (spl zp 0 l).take 248 := by
  have h1 : (spl zp 0 l).length = 256 := by rw [spl_length _ _ _ (by rw [zp_length]; omega), zp_length]
  unfold madeB
  rw [spl_take _ _ _ (by rw [h1]; omega)]
theorem whole_made (l : List UInt8) (h : l.length ≤ 248) : wholeB (madeB l) = true := by
  have h1 : (spl zp 0 l).length = 256 := by rw [spl_length _ _ _ (by rw [zp_length]; omega), zp_length]
  have hd : (madeB l).drop 248 = sumB (spl zp 0 l) := by unfold madeB; rw [spl_drop _ _ _ (by rw [sumB_length, h1])]
  have hs : sumB (madeB l) = sumB (spl zp 0 l) := sumB_congr fun j hj => by
    rw [← getD_take (k := 248) hj, madeB_take l h, getD_take hj]
  unfold wholeB
  rw [hs, hd]
  simp
theorem le_inj {k x y : Nat} (hx : x < 256 ^ k) (hy : y < 256 ^ k) (h : le k x = le k y) : x = y := by
  have := congrArg num h
  rw [num_le, num_le, Nat.mod_eq_of_lt hx, Nat.mod_eq_of_lt hy] at this
  exact this
theorem plainTo_set {L : List UInt8} {k a : Nat} {b : UInt8} (ha : a < k) (hl : a < L.length) : plainTo (L.set a b) k + (L.getD a 0).toNat = plainTo L k + b.toNat := by
  induction k with
  | zero => omega
  | succ k ih =>
    simp only [plainTo]
    by_cases hk : a = k
    · subst hk
      rw [plainTo_congr (M := L) (fun j hj => by simp [List.getD_eq_getElem?_getD, show ¬ a = j by omega])]
      have : (L.set a b).getD a 0 = b := by simp [List.getD_eq_getElem?_getD, hl]
      rw [this]; omega
    · have h1 := ih (by omega)
      have : (L.set a b).getD k 0 = L.getD k 0 := by simp [List.getD_eq_getElem?_getD, hk]
      rw [this]; omega
theorem xor_ne {b f : UInt8} (hf : f ≠ 0) : b ^^^ f ≠ b := fun h => hf (by
  have h2 : b ^^^ (b ^^^ f) = b ^^^ b := by rw [h]
  rwa [← UInt8.xor_assoc, UInt8.xor_self, UInt8.zero_xor] at h2)
theorem whole_hurt {P : List UInt8} (hP : P.length = 256) (hw : wholeB P = true) {a : Nat} (ha : a < 256) {f : UInt8} (hf : f ≠ 0) : wholeB (P.set a (P.getD a 0 ^^^ f)) = false := by
  unfold wholeB at *
  rw [beq_iff_eq] at hw
  rw [beq_eq_false_iff_ne]
  intro h
  have hne := xor_ne (b := P.getD a 0) hf
  by_cases h248 : a < 248
  · have hd : (P.set a (P.getD a 0 ^^^ f)).drop 248 = P.drop 248 := List.drop_set_of_lt h248
    rw [hd, ← hw] at h
    unfold sumB at h
    simp only [les, List.flatMap_cons, List.flatMap_nil, List.append_nil] at h
    have h1 := (List.append_inj h (by simp [le_length])).1
    have h2 := plainTo_set (L := P) (k := 248) (b := P.getD a 0 ^^^ f) h248 (by omega)
    have b1 := plainTo_le P 248
    have b2 := plainTo_le (P.set a (P.getD a 0 ^^^ f)) 248
    have h3 := le_inj (k := 4) (by omega) (by omega) h1
    rw [h3] at h2
    exact hne (UInt8.toNat_inj.1 (by omega))
  · have hs : sumB (P.set a (P.getD a 0 ^^^ f)) = sumB P := sumB_congr fun j hj => by simp [List.getD_eq_getElem?_getD, show ¬ a = j by omega]
    rw [hs, hw] at h
    have h1 := congrArg (fun l => l.getD (a - 248) 0) h
    simp only [List.getD_eq_getElem?_getD, List.getElem?_drop, List.getElem?_set] at h1
    rw [show 248 + (a - 248) = a by omega] at h1
    simp only [if_true] at h1
    rw [if_pos (by omega)] at h1
    simp only [Option.getD_some] at h1
    exact hne (by rw [List.getD_eq_getElem?_getD]; exact h1.symm)
/-- a page that holds bytes is whole just where it is not damaged -/
theorem whole_iff {l : List UInt8} (h : l.length ≤ 248) {fl : Option (Nat × UInt8)} (hfl : ∀ a f, fl = some (a, f) → a < 256 ∧ f ≠ 0) : wholeB (hurtP (madeB l) fl) = fl.isNone := by
  cases fl with
  | none => exact whole_made l h
  | some x =>
    obtain ⟨a, f⟩ := x
    obtain ⟨h1, h2⟩ := hfl a f rfl
    exact whole_hurt (madeB_length l h) (whole_made l h) h1 h2
theorem partL_length (L : List UInt8) (k : Nat) : (partL L k).length ≤ 248 := by simp [partL]; omega
end Go.Proofs.Ytcgapfmdpchemaa
/- What the head and the directory say, of a disk that stands for an abstract one. No function is walked here. -/
namespace Go.Proofs.Ytcgapfmdpchemaa
open Go.RowKit
/-! ### The pages of some bytes read -/
theorem madeB_room (l : List UInt8) (h : l.length ≤ 248) : (madeB l).take 248 = l ++ List.replicate (248 - l.length) 0 := by
  rw [madeB_take l h]
  apply List.ext_getElem?
  intro j
  have hz : zp = List.replicate 256 0 := rfl
  unfold spl
  rw [hz]
  simp only [List.take_zero, List.nil_append, Nat.zero_add, List.getElem?_take, List.getElem?_append, List.getElem?_drop, List.getElem?_replicate]
  grind
theorem parts_drop (n : Nat) (h : 0 < n) : parts n = parts (n - 248) + 1 := by unfold parts; omega
theorem partL_zero (L : List UInt8) : partL L 0 = L.take 248 := by simp [partL]
theorem partL_succ (L : List UInt8) (k : Nat) : partL L (k + 1) = partL (L.drop 248) k := by
  unfold partL; rw [List.drop_drop]; congr 2; omega
theorem rooms_whole (C : Cn) : ∀ (pages : List Nat) (L : List UInt8), pages.length = parts L.length → (∀ k, (h : k < pages.length) → C.page pages[k] = madeB (partL L k)) → (rooms C pages).take L.length = L
  | [], L, hl, _ => by
    have : L.length = 0 := by unfold parts at hl; simp at hl; omega
    rw [List.length_eq_zero_iff.1 this]; rfl
  | q :: r, L, hl, hp => by
    have h0 := hp 0 (by simp)
    simp only [List.getElem_cons_zero, partL_zero] at h0
    have hpos : 0 < L.length := by
      apply Nat.pos_of_ne_zero; intro h
      rw [h] at hl; simp [parts] at hl
    have hr : r.length = parts (L.drop 248).length := by
      rw [List.length_drop]; have := parts_drop L.length hpos; simp only [List.length_cons] at hl; omega
    have ih := rooms_whole C r (L.drop 248) hr (fun k hk => by
      have := hp (k + 1) (by simpa using hk)
      simpa [partL_succ] using this)
    have e1 : rooms C (q :: r) = (C.page q).take 248 ++ rooms C r := rfl
    rw [e1, h0, madeB_room _ (by simp; omega)]
    by_cases hle : L.length ≤ 248
    · have : (L.take 248) = L := List.take_of_length_le hle
      rw [this, List.append_assoc, List.take_left' rfl]
    · have h248 : (L.take 248).length = 248 := by rw [List.length_take]; omega
      rw [h248, Nat.sub_self, List.replicate_zero, List.append_nil]
      rw [List.take_append, h248, List.take_of_length_le (l := L.take 248) (by omega)]
      rw [List.length_drop] at ih
      rw [ih, List.take_append_drop]
/-! ### Heads -/
theorem headB_slice (c z : Nat) (l : List Nat) (hl : l.length ≤ 100) (j m : Nat) (h : j + m ≤ 10 + 2 * l.length) : ((headB c z l).drop j).take m = ((les 4 [c, z] ++ les 2 [l.length] ++ les 2 l).drop j).take m := by
  have hb : (les 4 [c, z] ++ les 2 [l.length] ++ les 2 l).length = 10 + 2 * l.length := by simp only [List.length_append, les_length, List.length_cons, List.length_nil]
  unfold headB
  generalize les 4 [c, z] ++ les 2 [l.length] ++ les 2 l = B at *
  have h1 : (spl zp 0 B).length = 256 := by rw [spl_length _ _ _ (by rw [zp_length]; omega), zp_length]
  apply List.ext_getElem?
  intro i
  simp only [List.getElem?_take, List.getElem?_drop]
  split
  · have h2 : (spl (spl zp 0 B) 252 (le 4 c).reverse)[j + i]? = (spl zp 0 B)[j + i]? := by
      have := spl_take (spl zp 0 B) 252 (le 4 c).reverse (by rw [h1]; omega)
      have h3 := congrArg (fun x => x[j + i]?) this
      simp only [List.getElem?_take] at h3
      rwa [if_pos (by omega), if_pos (by omega)] at h3
    rw [h2]
    unfold spl
    rw [List.take_zero, List.nil_append, List.getElem?_append_left (by omega)]
  · rfl
theorem headB_end (c z : Nat) (l : List Nat) (hl : l.length ≤ 100) : (headB c z l).drop 252 = (le 4 c).reverse := by
  have hb : (les 4 [c, z] ++ les 2 [l.length] ++ les 2 l).length = 10 + 2 * l.length := by simp only [List.length_append, les_length, List.length_cons, List.length_nil]
  unfold headB
  rw [spl_drop]
  rw [spl_length _ _ _ (by rw [zp_length]; omega), zp_length, List.length_reverse, le_length]
theorem headB_is (c z : Nat) (l : List Nat) (hl : l.length ≤ 100) (hz : z < 4294967296) (hll : ∀ q ∈ l, q < 65536) : HeadIs (headB c z l) z l := by
  have e4 : les 4 [c, z] = le 4 c ++ le 4 z := by simp [les]
  have e2 : les 2 [l.length] = le 2 l.length := by simp [les]
  refine ⟨headB_length c z l hl, ?_, ?_, fun i hi => ?_, hl⟩
  · rw [headB_slice c z l hl 8 2 (by omega), e4, e2, List.append_assoc, List.drop_left' (by rw [List.length_append, le_length, le_length]), List.take_left' (le_length 2 _), num_le]
    exact Nat.mod_eq_of_lt (by omega)
  · rw [headB_slice c z l hl 4 4 (by omega), e4, e2, List.append_assoc, List.append_assoc, List.drop_left' (le_length 4 _), List.take_left' (le_length 4 _), num_le]
    exact Nat.mod_eq_of_lt hz
  · rw [headB_slice c z l hl (10 + 2 * i) 2 (by omega), e4, e2, ← List.drop_drop, List.drop_left' (by simp [le_length])]
    have := les_drop l [] i hi
    rw [List.append_nil] at this
    rw [this, num_le]
    exact Nat.mod_eq_of_lt (hll _ (List.getElem_mem hi))
theorem num_mod (l : List UInt8) (h : 0 < l.length) : num l % 256 = (l.getD 0 0).toNat := by
  cases l with
  | nil => simp at h
  | cons b l => rw [num_cons]; have := b.toNat_lt; simp
theorem headNum_low (C : Cn) (q : Nat) (h : (C.page q).length = 256) : headNum C q % 256 = ((C.page q).getD 0 0).toNat := by
  unfold headNum
  rw [num_mod _ (by simp [h])]
  simp [List.getD_eq_getElem?_getD]
theorem endNum_low (C : Cn) (q : Nat) (h : (C.page q).length = 256) : endNum C q % 256 = ((C.page q).getD 255 0).toNat := by
  unfold endNum
  rw [num_mod _ (by simp [h])]
  congr 1
  simp only [List.getD_eq_getElem?_getD]
  rw [List.getElem?_reverse (by simp [h])]
  simp [h]
theorem headNum_headB {C : Cn} {q c z : Nat} {l : List Nat} (hl : l.length ≤ 100) (h : C.page q = headB c z l) (hc : c < 4294967296) : headNum C q = c ∧ endNum C q = c := by
  have e4 : les 4 [c, z] = le 4 c ++ le 4 z := by simp [les]
  constructor
  · unfold headNum
    rw [h, headB_slice c z l hl 0 4 (by omega), e4, List.drop_zero, List.append_assoc, List.append_assoc, List.take_left' (le_length 4 _), num_le]
    exact Nat.mod_eq_of_lt hc
  · unfold endNum
    rw [h, headB_end c z l hl, List.take_of_length_le (by rw [List.length_reverse, le_length]; exact Nat.le_refl 4), List.reverse_reverse, num_le]
    exact Nat.mod_eq_of_lt hc
theorem ofNat_toNat (n : Nat) : (UInt8.ofNat n).toNat = n % 256 := UInt8.toNat_ofNat'
/-- the other head does not count -/
theorem stale {C : Cn} {q c : Nat} (hp : (C.page q).length = 256) (hc : 1 ≤ c) (h255 : (C.page q).getD 255 0 = UInt8.ofNat (c - 1)) (h0 : (C.page q).getD 0 0 = UInt8.ofNat (c + 1) ∨ headNum C q < c) : ¬ (headNum C q = endNum C q ∧ c ≤ headNum C q) := by
  rintro ⟨h1, h2⟩
  rcases h0 with h0 | h0
  · have a := headNum_low C q hp
    have b := endNum_low C q hp
    rw [h0, ofNat_toNat] at a
    rw [h255, ofNat_toNat] at b
    omega
  · omega
section
variable {C : Cn} {A : AD}
theorem Rep.plen (h : Rep C A) {q : Nat} (hq : q < A.n) : (C.page q).length = 256 := C.page_length h.len (by rw [h.n]; exact hq)
theorem Rep.newest (h : Rep C A) : newestTo C 2 = (headB A.change A.dirB.length A.index, A.place, A.change) := by
  have hn := headNum_headB h.ixl h.head h.chb
  have hst := stale (h.plen (q := 1 - A.place) (by have := h.n4; omega)) h.ch h.old255 h.old0
  have hch := h.ch
  rw [newestTo, newestTo, newestTo]
  have hpl := h.place
  have hhead := h.head
  rcases Nat.lt_or_ge A.place 1 with hp | hp
  · have hp0 : A.place = 0 := by omega
    rw [hp0] at hn hst hhead ⊢
    simp only [Nat.sub_zero] at hst
    rw [if_pos (show (zp, 0, 0).2.2 < headNum C 0 ∧ headNum C 0 = endNum C 0 by rw [hn.1, hn.2]; exact ⟨by show 0 < _; omega, rfl⟩)]
    rw [if_neg (by rintro ⟨h1, h2⟩; exact hst ⟨h2, by have : headNum C 0 < headNum C 1 := h1; omega⟩), hhead, hn.1]
  · have hp1 : A.place = 1 := by omega
    rw [hp1] at hn hst hhead ⊢
    simp only [Nat.sub_self] at hst
    have hx : (if (zp, 0, 0).2.2 < headNum C 0 ∧ headNum C 0 = endNum C 0 then (C.page 0, 0, headNum C 0) else (zp, 0, 0)).2.2 < headNum C 1 := by
      rw [hn.1]
      split
      · rename_i hc
        show headNum C 0 < A.change
        apply Nat.lt_of_not_le
        intro hle
        exact hst ⟨hc.2, hle⟩
      · show 0 < A.change; omega
    rw [if_pos ⟨hx, by rw [hn.1, hn.2]⟩, hhead, hn.1]
theorem Rep.dirlen (h : Rep C A) : A.dirB.length ≤ 248 * A.index.length ∧ A.dirB.length ≤ 24800 := by
  have h1 := h.ix.1
  have h2 := h.ixl
  unfold parts at h1
  omega
theorem Rep.flaw (h : Rep C A) {q a : Nat} {f : UInt8} (hq : C.flaws q = some (a, f)) : a < 256 ∧ f ≠ 0 := by
  rw [h.flaws] at hq
  have := h.hurts q a f hq
  exact ⟨this.2.2.1, this.2.2.2⟩
theorem Rep.whole (h : Rep C A) {pages : List Nat} {L : List UInt8} (hp : PagesAre C pages L) {q : Nat} (hq : q ∈ pages) : wholeB (C.page q) = (A.hurts q).isNone := by
  obtain ⟨k, hk, rfl⟩ := List.getElem_of_mem hq
  rw [hp.2 k hk, whole_iff (partL_length L k) (fun a f hf => h.flaw hf), h.flaws]
theorem Rep.read (_ : Rep C A) {pages : List Nat} {L : List UInt8} (hp : PagesAre C pages L) (hall : ∀ q ∈ pages, C.flaws q = none) : (rooms C pages).take L.length = L :=
  rooms_whole C pages L hp.1 fun k hk => by rw [hp.2 k hk, hall _ (List.getElem_mem hk)]; rfl
theorem Rep.used_ix (h : Rep C A) {q : Nat} (hq : q ∈ A.index) : 2 ≤ q ∧ q < A.n := h.rng q (List.mem_append_left _ hq)
theorem Rep.used_es (h : Rep C A) {e : EA} (he : e ∈ A.es) {q : Nat} (hq : q ∈ e.pages) : 2 ≤ q ∧ q < A.n := h.rng q (List.mem_append_right _ (List.mem_flatMap.2 ⟨e, he, hq⟩))
theorem Rep.dir (h : Rep C A) : Dir C A.dirB.length A.index A.des := by
  have hd := h.dirlen
  have hn4 := h.n5
  refine ⟨?_, fun q hq => by rw [h.n]; exact (h.used_ix hq).2, hd.1, fun hw => ?_, h.fit, h.asc, fun e he p hp => ?_, fun e he => ?_, ?_⟩
  · rw [h.newest]
    exact headB_is _ _ _ h.ixl (by omega) fun q hq => by have := (h.used_ix hq).2; omega
  · exact h.read h.ix fun q hq => by
      have := hw q hq
      rw [h.whole h.ix hq] at this
      rw [h.flaws]
      exact Option.isNone_iff_eq_none.1 this
  · obtain ⟨x, hx, rfl⟩ := List.mem_map.1 he
    rw [h.n]; exact (h.used_es hx hp).2
  · obtain ⟨x, hx, rfl⟩ := List.mem_map.1 he
    have := (h.vs x hx).1
    rw [nameBytes_length] at this
    show x.value.size ≤ 248 * x.pages.length
    rw [this]; unfold parts; omega
  · have := enc_ge A.des
    have h2 : (enc A.des).length ≤ 24800 := hd.2
    omega
end
end Go.Proofs.Ytcgapfmdpchemaa
/- What the store's methods that only read return, of the abstract disk. No function is walked here. -/
namespace Go.Proofs.Ytcgapfmdpchemaa
open Go.RowKit
def AD.ok (A : AD) (l : List Nat) : Bool := l.all fun q => (A.hurts q).isNone
def AD.state (A : AD) (e0 : Nat) : Nat := if A.down then 9 else if e0 ≠ 0 then e0 else if A.ok A.index then 0 else 370
def AD.get (A : AD) (name : ByteArray) : ByteArray × Nat :=
  if A.state (argB name) ≠ 0 then (ByteArray.empty, A.state (argB name))
  else match A.es.find? fun e => decide (e.name = name) with
    | none => (ByteArray.empty, 4)
    | some e => if A.ok e.pages then (e.value, 0) else (ByteArray.empty, 370)
def AD.usedL (A : AD) : List Bool := usedB A.n A.index A.des
def AD.freeL (A : AD) : List Nat := Ytcgapfmdpchemaa.freeL A.usedL
def AD.free (A : AD) : Nat × Nat := if A.state 0 ≠ 0 then (0, A.state 0) else (A.freeL.length, 0)
def AD.scrub (A : AD) : List Nat × Nat :=
  if A.state 0 ≠ 0 then ([], A.state 0) else ((List.range A.n).filter fun i => A.usedL.getD i false && decide (1 < i) && (A.hurts i).isSome, 0)
def AD.list (A : AD) (from_ : ByteArray) (most : Int) : List DE × Nat :=
  if A.state (argL most) ≠ 0 then ([], A.state (argL most)) else ((A.des.drop (atB A.des from_)).take most.toNat, 0)
/-! ### Which pages are used -/
theorem set_getD (L : List Bool) (p j : Nat) (d : Bool) : (L.set p true).getD j d = true ↔ (L.getD j d = true ∨ (j = p ∧ j < L.length)) := by
  simp only [List.getD_eq_getElem?_getD, List.getElem?_set]
  by_cases h : p = j
  · subst h
    by_cases hl : p < L.length
    · simp [hl]
    · simp [hl]
  · have h' : ¬ j = p := fun e => h e.symm
    simp [h, h']
theorem mark_getD (l : List Nat) : ∀ (L : List Bool) (j : Nat) (d : Bool), (mark L l).getD j d = true ↔ (L.getD j d = true ∨ (j ∈ l ∧ j < L.length)) := by
  induction l with
  | nil => intro L j d; simp [mark]
  | cons p l ih =>
    intro L j d
    have : mark L (p :: l) = mark (L.set p true) l := rfl
    rw [this, ih, set_getD, List.length_set]
    simp only [List.mem_cons]
    constructor
    · rintro ((h | h) | h)
      · exact .inl h
      · exact .inr ⟨.inl h.1, h.2⟩
      · exact .inr ⟨.inr h.1, h.2⟩
    · rintro (h | ⟨h | h, h2⟩)
      · exact .inl (.inl h)
      · exact .inl (.inr ⟨h, h2⟩)
      · exact .inr ⟨h, h2⟩
theorem marks_getD (es : List DE) : ∀ (L : List Bool) (j : Nat) (d : Bool), (es.foldl (fun L e => mark L e.pages) L).getD j d = true ↔ (L.getD j d = true ∨ ((∃ e ∈ es, j ∈ e.pages) ∧ j < L.length)) := by
  induction es with
  | nil => intro L j d; simp
  | cons e es ih =>
    intro L j d
    rw [List.foldl_cons, ih, mark_getD, mark_length]
    simp only [List.mem_cons, exists_eq_or_imp]
    constructor
    · rintro ((h | h) | h)
      · exact .inl h
      · exact .inr ⟨.inl h.1, h.2⟩
      · exact .inr ⟨.inr h.1, h.2⟩
    · rintro (h | ⟨h | h, h2⟩)
      · exact .inl (.inl h)
      · exact .inl (.inr ⟨h, h2⟩)
      · exact .inr ⟨h, h2⟩
theorem used_iff (n : Nat) (hn : 2 ≤ n) (index : List Nat) (es : List DE) (j : Nat) (hj : j < n) (d : Bool) : (usedB n index es).getD j d = true ↔ (j < 2 ∨ j ∈ index ∨ ∃ e ∈ es, j ∈ e.pages) := by
  have hlen : (true :: true :: List.replicate (n - 2) false).length = n := by simp; omega
  unfold usedB
  rw [marks_getD, mark_getD, mark_length, hlen]
  have h0 : (true :: true :: List.replicate (n - 2) false).getD j d = true ↔ j < 2 := by
    rcases j with _ | _ | j
    · simp
    · simp
    · simp [List.getD_eq_getElem?_getD, show j < n - 2 by omega]
  rw [h0]
  constructor
  · rintro ((h | h) | h)
    · exact .inl h
    · exact .inr (.inl h.1)
    · exact .inr (.inr h.1)
  · rintro (h | h | h)
    · exact .inl (.inl h)
    · exact .inl (.inr ⟨h, hj⟩)
    · exact .inr ⟨h, hj⟩
theorem free_iff (n : Nat) (hn : 2 ≤ n) (index : List Nat) (es : List DE) (j : Nat) : j ∈ freeL (usedB n index es) ↔ (j < n ∧ 2 ≤ j ∧ j ∉ index ∧ ∀ e ∈ es, j ∉ e.pages) := by
  unfold freeL
  rw [List.mem_filter, List.mem_range, usedB_length n hn]
  constructor
  · rintro ⟨h1, h2⟩
    have h3 := not_congr (used_iff n hn index es j h1 true)
    have h4 : ¬ (usedB n index es).getD j true = true := by intro h; rw [h] at h2; cases h2
    have h5 := h3.1 h4
    refine ⟨h1, ?_, fun h => h5 (.inr (.inl h)), fun e he h => h5 (.inr (.inr ⟨e, he, h⟩))⟩
    apply Nat.le_of_not_lt; exact fun h => h5 (.inl h)
  · rintro ⟨h1, h2, h3, h4⟩
    refine ⟨h1, ?_⟩
    have h5 : ¬ (usedB n index es).getD j true = true := by
      rw [used_iff n hn index es j h1 true]
      rintro (h | h | ⟨e, he, h⟩)
      · omega
      · exact h3 h
      · exact h4 e he h
    simpa using h5
theorem freeL_nodup (L : List Bool) : (freeL L).Nodup := List.Nodup.sublist List.filter_sublist List.nodup_range
theorem freeNum_freeL (L : List Bool) : freeNum L = (freeL L).length := by
  have : ∀ k, k ≤ L.length → freeNum (L.take k) = (freeL (L.take k)).length := fun k => by
    induction k with
    | zero => intro _; rfl
    | succ k ih =>
      intro hk
      rw [freeNum_snoc L k hk, freeL_take L k hk, List.length_append, ih (by omega)]
      cases L[k] <;> rfl
  have h := this L.length (Nat.le_refl _)
  rwa [List.take_length] at h
section
variable {C : Cn} {A : AD}
theorem Rep.allB (h : Rep C A) {pages : List Nat} {L : List UInt8} (hp : PagesAre C pages L) : allB C pages = A.ok pages := by
  unfold Ytcgapfmdpchemaa.allB AD.ok
  rw [Bool.eq_iff_iff, List.all_eq_true, List.all_eq_true]
  exact ⟨fun k q hq => by rw [← h.whole hp hq]; exact k q hq, fun k q hq => by rw [h.whole hp hq]; exact k q hq⟩
theorem Rep.state (h : Rep C A) (e0 : Nat) : stateB C A.index e0 = A.state e0 := by
  unfold stateB AD.state; rw [h.down, h.allB h.ix]
theorem Rep.two (h : Rep C A) : 2 ≤ A.n := by have := h.n4; omega
theorem Rep.get (h : Rep C A) (name : ByteArray) : getB C A.index A.des name = A.get name := by
  unfold getB AD.get
  rw [h.state]
  split
  · rfl
  · cases hf : A.es.find? fun e => decide (e.name = name) with
    | none =>
      have hno := List.find?_eq_none.1 hf
      have hb : isB A.des name = false := by
        rw [Bool.eq_false_iff]
        intro hb
        obtain ⟨e, he, hn⟩ := List.any_eq_true.1 hb
        obtain ⟨x, hx, rfl⟩ := List.mem_map.1 he
        exact hno x hx hn
      rw [if_pos hb]
    | some e =>
      have he := List.mem_of_find?_eq_some hf
      have hn : e.name = name := by have := List.find?_some hf; simpa using this
      have hb : isB A.des name = true := List.any_eq_true.2 ⟨e.de, List.mem_map.2 ⟨e, he, rfl⟩, by simp [EA.de, hn]⟩
      rw [if_neg (by rw [hb]; simp)]
      obtain ⟨hi, hname⟩ := (isB_at h.asc).1 hb
      have hsame : A.des[atB A.des name] = e.de := by
        have hm : e.de ∈ A.des := List.mem_map.2 ⟨e, he, rfl⟩
        obtain ⟨j, hj, hje⟩ := List.getElem_of_mem hm
        rw [← hje]
        have hjn : A.des[j].name = name := by rw [hje]; exact hn
        rcases Nat.lt_trichotomy j (atB A.des name) with hlt | heq | hgt
        · have := List.pairwise_iff_getElem.1 h.asc j _ hj hi hlt
          rw [hjn, hname] at this
          exact absurd this (nlt_irrefl _)
        · subst heq; rfl
        · have := List.pairwise_iff_getElem.1 h.asc _ j hi hj hgt
          rw [hjn, hname] at this
          exact absurd this (nlt_irrefl _)
      rw [List.getElem?_eq_getElem hi, hsame]
      show (if Ytcgapfmdpchemaa.allB C e.pages = true then _ else _) = _
      rw [h.allB (h.vs e he)]
      dsimp only
      by_cases hok : A.ok e.pages = true
      · rw [if_pos hok, if_pos hok]
        have hrd := h.read (h.vs e he) fun q hq => by
          have := List.all_eq_true.1 hok q hq
          rw [h.flaws]; exact Option.isNone_iff_eq_none.1 this
        rw [nameBytes_length] at hrd
        show (⟨((rooms C e.pages).take e.value.size).toArray⟩, 0) = (e.value, 0)
        rw [hrd]
        congr 1
      · rw [if_neg hok, if_neg hok]
theorem Rep.free (h : Rep C A) : freeR C A.index A.des = A.free := by
  unfold freeR AD.free AD.freeL AD.usedL
  rw [h.state, h.n, freeNum_freeL]
theorem Rep.used_page (h : Rep C A) {i : Nat} (hi : i < A.n) (hu : A.usedL.getD i false = true) (h1 : 1 < i) : wholeB (C.page i) = (A.hurts i).isNone := by
  rcases (used_iff A.n h.two A.index A.des i hi false).1 hu with hl | hl | ⟨e, he, hl⟩
  · omega
  · exact h.whole h.ix hl
  · obtain ⟨x, hx, rfl⟩ := List.mem_map.1 he
    exact h.whole (h.vs x hx) hl
theorem Rep.scrub (h : Rep C A) : scrubR C A.index A.des = A.scrub := by
  unfold scrubR AD.scrub
  rw [h.state]
  split
  · rfl
  · congr 1
    unfold scrubTo
    rw [h.n]
    apply List.filter_congr
    intro i hi
    rw [List.mem_range] at hi
    show ((usedB A.n A.index A.des).getD i false && decide (1 < i) && !wholeB (C.page i)) = ((usedB A.n A.index A.des).getD i false && decide (1 < i) && (A.hurts i).isSome)
    by_cases hu : (usedB A.n A.index A.des).getD i false = true
    · by_cases h1 : 1 < i
      · rw [h.used_page hi hu h1]
        simp [h1]
      · simp [h1]
    · have : (usedB A.n A.index A.des).getD i false = false := by simpa using hu
      rw [this]; rfl
theorem Rep.list (h : Rep C A) (f : ByteArray) (m : Int) : listR C A.index A.des f m = A.list f m := by
  unfold listR AD.list; rw [h.state]
end
end Go.Proofs.Ytcgapfmdpchemaa
