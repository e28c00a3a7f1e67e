/- The abstract disk, and how a disk's bytes stand for it. No function is walked here. -/
import Derived.Test.YtcgapfmdpchemaaDoF
import Derived.Test.YtcgapfmdpchemaaDamage
namespace Go.Proofs.Ytcgapfmdpchemaa
open Go.RowKit
/-- an entry with its value -/
structure EA where
  name : ByteArray
  value : ByteArray
  pages : List Nat
def EA.de (e : EA) : DE := ⟨e.name, e.value.size, e.pages⟩
/-- what a disk is -/
structure AD where
  n : Nat
  fuse : Int
  down : Bool
  es : List EA
  index : List Nat
  hurts : Nat → Option (Nat × UInt8)
  change : Nat
  place : Nat
def AD.des (A : AD) : List DE := A.es.map EA.de
def AD.dirB (A : AD) : List UInt8 := enc A.des
def AD.used (A : AD) : List Nat := A.index ++ A.es.flatMap (·.pages)
/-- a page with the bits of a byte turned -/
def hurtP (P : List UInt8) : Option (Nat × UInt8) → List UInt8
  | none => P
  | some (a, f) => P.set a (P.getD a 0 ^^^ f)
/-- part k of some bytes -/
def partL (L : List UInt8) (k : Nat) : List UInt8 := (L.drop (248 * k)).take 248
/-- some pages hold some bytes, but for the damage -/
def PagesAre (C : Cn) (pages : List Nat) (L : List UInt8) : Prop :=
  pages.length = parts L.length ∧ ∀ k, (h : k < pages.length) → C.page pages[k] = hurtP (madeB (partL L k)) (C.flaws pages[k])
structure Rep (C : Cn) (A : AD) : Prop where
  n : C.n = A.n
  fuse : C.fuse = A.fuse
  down : C.down = A.down
  flaws : C.flaws = A.hurts
  len : C.bytes.length = 256 * C.n
  n4 : 4 ≤ A.n
  n5 : A.n ≤ 4096
  fuseb : A.fuse ≤ 9223372036854775807
  place : A.place ≤ 1
  ch : 1 ≤ A.change
  chb : A.change < 4294967296
  head : C.page A.place = headB A.change A.dirB.length A.index
  old255 : (C.page (1 - A.place)).getD 255 0 = UInt8.ofNat (A.change - 1)
  old0 : (C.page (1 - A.place)).getD 0 0 = UInt8.ofNat (A.change + 1) ∨ headNum C (1 - A.place) < A.change
  ix : PagesAre C A.index A.dirB
  vs : ∀ e ∈ A.es, PagesAre C e.pages (nameBytes e.value)
  hurts : ∀ q a f, A.hurts q = some (a, f) → 2 ≤ q ∧ q < A.n ∧ a < 256 ∧ f ≠ 0
  nodup : A.used.Nodup
  rng : ∀ q ∈ A.used, 2 ≤ q ∧ q < A.n
  asc : Asc A.des
  fit : ∀ e ∈ A.des, e.fits
  ixl : A.index.length ≤ 100
/-! ### Sums -/
theorem plainTo_congr {L M : List UInt8} {k : Nat} (h : ∀ j, j < k → L.getD j 0 = M.getD j 0) : plainTo L k = plainTo M k := by
  induction k with
  | zero => rfl
  | succ k ih => simp only [plainTo]; rw [ih fun j hj => h j (by omega), h k (by omega)]
theorem placedTo_congr {L M : List UInt8} {k : Nat} (h : ∀ j, j < k → L.getD j 0 = M.getD j 0) : placedTo L k = placedTo M k := by
  induction k with
  | zero => rfl
  | succ k ih => simp only [placedTo]; rw [ih fun j hj => h j (by omega), h k (by omega)]
theorem sumB_congr {L M : List UInt8} (h : ∀ j, j < 248 → L.getD j 0 = M.getD j 0) : sumB L = sumB M := by
  unfold sumB; rw [plainTo_congr h, placedTo_congr h]
theorem spl_take (L : List UInt8) (off : Nat) (cs : List UInt8) (h : off ≤ L.length) : (spl L off cs).take off = L.take off := by
  unfold spl
  rw [List.append_assoc, List.take_append_of_le_length (by rw [List.length_take]; omega), List.take_take, Nat.min_self]
theorem spl_drop (L : List UInt8) (off : Nat) (cs : List UInt8) (h : off + cs.length = L.length) : (spl L off cs).drop off = cs := by
  unfold spl
  rw [List.append_assoc, List.drop_append_of_le_length (by rw [List.length_take]; omega), List.drop_of_length_le (by rw [List.length_take]; omega), List.nil_append, List.drop_of_length_le (by omega), List.append_nil]
theorem getD_take {L : List UInt8} {k j : Nat} (h : j < k) : (L.take k).getD j 0 = L.getD j 0 := by
  simp [List.getD_eq_getElem?_getD, h]
theorem madeB_take (l : List UInt8) (h : l.length ≤ 248) : (madeB l).take 248 = (spl zp 0 l).take 248 := by
  have h1 : (spl zp 0 l).length = 256 := by rw [spl_length _ _ _ (by rw [zp_length]; omega), zp_length]
  unfold madeB
  rw [spl_take _ _ _ (by rw [h1]; omega)]
theorem whole_made (l : List UInt8) (h : l.length ≤ 248) : wholeB (madeB l) = true := by
  have h1 : (spl zp 0 l).length = 256 := by rw [spl_length _ _ _ (by rw [zp_length]; omega), zp_length]
  have hd : (madeB l).drop 248 = sumB (spl zp 0 l) := by unfold madeB; rw [spl_drop _ _ _ (by rw [sumB_length, h1])]
  have hs : sumB (madeB l) = sumB (spl zp 0 l) := sumB_congr fun j hj => by
    rw [← getD_take (k := 248) hj, madeB_take l h, getD_take hj]
  unfold wholeB
  rw [hs, hd]
  simp
theorem le_inj {k x y : Nat} (hx : x < 256 ^ k) (hy : y < 256 ^ k) (h : le k x = le k y) : x = y := by
  have := congrArg num h
  rw [num_le, num_le, Nat.mod_eq_of_lt hx, Nat.mod_eq_of_lt hy] at this
  exact this
theorem plainTo_set {L : List UInt8} {k a : Nat} {b : UInt8} (ha : a < k) (hl : a < L.length) : plainTo (L.set a b) k + (L.getD a 0).toNat = plainTo L k + b.toNat := by
  induction k with
  | zero => omega
  | succ k ih =>
    simp only [plainTo]
    by_cases hk : a = k
    · subst hk
      rw [plainTo_congr (M := L) (fun j hj => by simp [List.getD_eq_getElem?_getD, show ¬ a = j by omega])]
      have : (L.set a b).getD a 0 = b := by simp [List.getD_eq_getElem?_getD, hl]
      rw [this]; omega
    · have h1 := ih (by omega)
      have : (L.set a b).getD k 0 = L.getD k 0 := by simp [List.getD_eq_getElem?_getD, hk]
      rw [this]; omega
theorem xor_ne {b f : UInt8} (hf : f ≠ 0) : b ^^^ f ≠ b := fun h => hf (by
  have h2 : b ^^^ (b ^^^ f) = b ^^^ b := by rw [h]
  rwa [← UInt8.xor_assoc, UInt8.xor_self, UInt8.zero_xor] at h2)
theorem whole_hurt {P : List UInt8} (hP : P.length = 256) (hw : wholeB P = true) {a : Nat} (ha : a < 256) {f : UInt8} (hf : f ≠ 0) : wholeB (P.set a (P.getD a 0 ^^^ f)) = false := by
  unfold wholeB at *
  rw [beq_iff_eq] at hw
  rw [beq_eq_false_iff_ne]
  intro h
  have hne := xor_ne (b := P.getD a 0) hf
  by_cases h248 : a < 248
  · have hd : (P.set a (P.getD a 0 ^^^ f)).drop 248 = P.drop 248 := List.drop_set_of_lt h248
    rw [hd, ← hw] at h
    unfold sumB at h
    simp only [les, List.flatMap_cons, List.flatMap_nil, List.append_nil] at h
    have h1 := (List.append_inj h (by simp [le_length])).1
    have h2 := plainTo_set (L := P) (k := 248) (b := P.getD a 0 ^^^ f) h248 (by omega)
    have b1 := plainTo_le P 248
    have b2 := plainTo_le (P.set a (P.getD a 0 ^^^ f)) 248
    have h3 := le_inj (k := 4) (by omega) (by omega) h1
    rw [h3] at h2
    exact hne (UInt8.toNat_inj.1 (by omega))
  · have hs : sumB (P.set a (P.getD a 0 ^^^ f)) = sumB P := sumB_congr fun j hj => by simp [List.getD_eq_getElem?_getD, show ¬ a = j by omega]
    rw [hs, hw] at h
    have h1 := congrArg (fun l => l.getD (a - 248) 0) h
    simp only [List.getD_eq_getElem?_getD, List.getElem?_drop, List.getElem?_set] at h1
    rw [show 248 + (a - 248) = a by omega] at h1
    simp only [if_true] at h1
    rw [if_pos (by omega)] at h1
    simp only [Option.getD_some] at h1
    exact hne (by rw [List.getD_eq_getElem?_getD]; exact h1.symm)
/-- a page that holds bytes is whole just where it is not damaged -/
theorem whole_iff {l : List UInt8} (h : l.length ≤ 248) {fl : Option (Nat × UInt8)} (hfl : ∀ a f, fl = some (a, f) → a < 256 ∧ f ≠ 0) : wholeB (hurtP (madeB l) fl) = fl.isNone := by
  cases fl with
  | none => exact whole_made l h
  | some x =>
    obtain ⟨a, f⟩ := x
    obtain ⟨h1, h2⟩ := hfl a f rfl
    exact whole_hurt (madeB_length l h) (whole_made l h) h1 h2
theorem partL_length (L : List UInt8) (k : Nat) : (partL L k).length ≤ 248 := by simp [partL]; omega
end Go.Proofs.Ytcgapfmdpchemaa
