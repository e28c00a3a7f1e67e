/- The directory: its bytes, how its entries lie in memory, and the walk of directory. -/
import Derived.Test.YtcgapfmdpchemaaCut
namespace Go.Proofs.Ytcgapfmdpchemaa
open Go.RowKit
/-- an entry of the directory: a name, the size of its value, and its pages -/
structure DE where
  name : ByteArray
  size : Nat
  pages : List Nat
def nameBytes (b : ByteArray) : List UInt8 := b.data.toList
def DE.fits (e : DE) : Prop := 0 < e.name.size ∧ e.name.size ≤ 64 ∧ e.size < 4294967296 ∧ e.pages.length ≤ 1000 ∧ ∀ p ∈ e.pages, p < 65536
/-- the rest of an entry's bytes, behind the name -/
def encTail (e : DE) : List UInt8 := le 4 e.size ++ (le 2 e.pages.length ++ les 2 e.pages)
def encE (e : DE) : List UInt8 := UInt8.ofNat e.name.size :: (nameBytes e.name ++ encTail e)
def enc (es : List DE) : List UInt8 := es.flatMap encE
theorem nameBytes_length (b : ByteArray) : (nameBytes b).length = b.size := by unfold nameBytes; rw [Array.length_toList]; rfl
theorem encE_length (e : DE) : (encE e).length = 7 + e.name.size + 2 * e.pages.length := by
  simp only [encE, encTail, List.length_cons, List.length_append, nameBytes_length, le_length, les_length]; omega
theorem enc_cons (e : DE) (es : List DE) : enc (e :: es) = encE e ++ enc es := rfl
/-- a slice of numbers, on a row of numbers -/
def IntsAt (w : World) (sl : Value) (pages : List Nat) : Prop :=
  ∃ A c, sl = .slice A pages.length c ∧ pages.length ≤ c ∧ c ≤ maxLen ∧
    (pages = [] ∨ ∃ b off cs fr, A = some ⟨b, off, none⟩ ∧ w.heap[b]? = some (.cells cs 3 fr) ∧ ∀ j, (h : j < pages.length) → cs[off + j]? = some (iv pages[j]))
theorem IntsAt.rd {w : World} {sl : Value} {pages : List Nat} (h : IntsAt w sl pages) : Rd w sl pages.length (ivs pages) := by
  obtain ⟨A, c, rfl, h1, h2, h⟩ := h
  refine ⟨A, c, rfl, h1, h2, fun j hj => ?_⟩
  rw [ivs_length] at hj
  rcases h with rfl | ⟨b, off, cs, fr, rfl, hb, hc⟩
  · simp at hj
  · exact ⟨b, off, rfl, by rw [cell_of_row _ _ _ _ _ _ hb, hc j hj]; simp [ivs]⟩
theorem IntsAt.kept {w w' : World} {sl : Value} {pages : List Nat} (h : IntsAt w sl pages) (hk : ∀ (b : Nat) (cs : Array Value) (fr : Nat × Nat), w.heap[b]? = some (Obj.cells cs 3 fr) → w'.heap[b]? = w.heap[b]?) : IntsAt w' sl pages := by
  obtain ⟨A, c, rfl, h1, h2, h⟩ := h
  refine ⟨A, c, rfl, h1, h2, ?_⟩
  rcases h with rfl | ⟨b, off, cs, fr, rfl, hb, hc⟩
  · exact .inl rfl
  · exact .inr ⟨b, off, cs, fr, rfl, (hk b cs fr hb).trans hb, hc⟩
theorem IntsAt.below {w w' : World} {sl : Value} {pages : List Nat} {B : Nat} (h : IntsAt w sl pages) (hb : Below B w w') (hB : w.heap.size ≤ B) : IntsAt w' sl pages :=
  h.kept fun b _cs _fr hbk => hb.block b (Nat.lt_of_lt_of_le (Array.getElem?_eq_some_iff.1 hbk).1 hB)
theorem IntsAt.own {w : World} {base : Nat} {sl : Value} {pages : List Nat} (h : w.ownsRow base 3 1 sl pages.length (ivs pages)) : IntsAt w sl pages := by
  rcases h.2 with ⟨rfl, h0⟩ | ⟨g, cap, cur, rfl, _, hg, hnc, hcm, hcs, ht⟩
  · obtain rfl := List.eq_nil_of_length_eq_zero h0
    exact ⟨none, 0, rfl, Nat.le_refl _, by decide, .inl rfl⟩
  · refine ⟨_, cap, rfl, hnc, hcm, .inr ⟨g, 0, cur, _, rfl, hg, fun j hj => ?_⟩⟩
    have h1 : (ivs pages)[j]? = some (iv pages[j]) := by simp [ivs, hj]
    rw [← ht, List.getElem?_take, if_pos (by omega)] at h1
    simpa using h1
/-- an entry as it lies in memory: with the slice of its pages -/
def peCells (p : DE × Value) : List Value := [.string p.1.name, iv p.1.size, p.2]
structure EntRow (w : World) (base : Nat) (v : Value) (ps : List (DE × Value)) : Prop where
  own : w.ownsRow base 94 3 v ps.length (ps.flatMap peCells)
  at_ : ∀ p ∈ ps, IntsAt w p.2 p.1.pages
theorem peCells_length (ps : List (DE × Value)) : (ps.flatMap peCells).length = ps.length * 3 := by
  induction ps with
  | nil => rfl
  | cons p ps ih => simp only [List.flatMap_cons, List.length_append, ih, List.length_cons, peCells, List.length_nil]; omega
theorem own_elem {w : World} {base e size n : Nat} {v : Value} {xs : List Value} (h : w.ownsRow base e size v n xs) {g : Nat} (hg : v.ownBlock = some g) : ∃ cs, w.heap[g]? = some (.cells cs e (0, 0)) := by
  rcases h.2 with ⟨rfl, _⟩ | ⟨g', cap, cur, rfl, _, hg', _⟩
  · simp [Value.ownBlock] at hg
  · simp [Value.ownBlock] at hg
    subst hg
    exact ⟨cur, hg'⟩
theorem own_setCell {w : World} {base e size n : Nat} {v : Value} {xs : List Value} (h : w.ownsRow base e size v n xs) (p : Addr) (u : Value) (hp : p.block < base) : (w.setCell p u).ownsRow base e size v n xs := by
  refine ⟨h.1, ?_⟩
  rcases h.2 with h2 | ⟨g, cap, cur, rfl, h3, h4, r⟩
  · exact .inl h2
  · exact .inr ⟨g, cap, cur, rfl, h3, (heap_setCell_other w p g u (by omega)).trans h4, r⟩
/-- behind an append to a row of another kind a slice of numbers reads as before -/
theorem IntsAt.grown {w w' : World} {sl : Value} {pages : List Nat} (h : IntsAt w sl pages) {base e size n : Nat} {v : Value} {xs : List Value} (ho : w.ownsRow base e size v n xs) (he : e ≠ 3) (hg : w.grownBy w' v.ownBlock) : IntsAt w' sl pages :=
  h.kept fun b cs fr hb => hg.block b (Array.getElem?_eq_some_iff.1 hb).1 fun hc => by
    obtain ⟨cs', h'⟩ := own_elem ho hc.symm
    rw [hb] at h'
    simp at h'
    exact he h'.2.1.symm
/-- what a head says -/
structure HeadIs (P : List UInt8) (size : Nat) (index : List Nat) : Prop where
  len : P.length = 256
  n : num ((P.drop 8).take 2) = index.length
  size : num ((P.drop 4).take 4) = size
  at_ : ∀ i, (h : i < index.length) → num ((P.drop (10 + 2 * i)).take 2) = index[i]
  small : index.length ≤ 100
theorem Rd_cutB {w : World} {A : Option Addr} {n c : Nat} {L : List UInt8} (h : Rd w (.slice A n c) n (bvs L)) (hx : L.length = n) (l r m q : Nat) (hr : l + r ≤ n) (hm : m = l + q) (hrq : r ≤ q) (hmc : m ≤ c) :
    Rd w (.slice (cut A l m 1) r q) r (bvs ((L.drop l).take r)) := by
  have := Rd_cut h (s := 1) (by rw [bvs_length, hx, Nat.mul_one]) l r m q hr hm hrq hmc
  simpa [bvs] using this
theorem Rd_sufB {w : World} {A : Option Addr} {n c : Nat} {L : List UInt8} (h : Rd w (.slice A n c) n (bvs L)) (hx : L.length = n) (l r q : Nat) (hr : n = l + r) (hm : c = l + q) (hrq : r ≤ q) :
    Rd w (.slice (cut A l c 1) r q) r (bvs (L.drop l)) := by
  have := Rd_cutB h hx l r c q (by omega) hm hrq (Nat.le_refl _)
  rwa [List.take_of_length_le (by rw [List.length_drop]; omega)] at this
def sliceLen : Value → Nat
  | .slice _ n _ => n
  | _ => 0
theorem enc_name (e : DE) (X : List UInt8) : ((encE e ++ X).drop 1).take e.name.size = nameBytes e.name := by
  have h := nameBytes_length e.name
  simp only [encE, List.cons_append, List.drop_succ_cons, List.drop_zero, List.append_assoc]
  rw [← h, List.take_left]
theorem enc_tail (e : DE) (X : List UInt8) : (encE e ++ X).drop (1 + e.name.size) = encTail e ++ X := by
  have h := nameBytes_length e.name
  rw [Nat.add_comm]
  simp only [encE, List.cons_append, List.drop_succ_cons, List.append_assoc]
  rw [← h, List.drop_left]
theorem tail_size (e : DE) (X : List UInt8) : ((encTail e ++ X).drop 0).take 4 = le 4 e.size := by
  have h := le_length 4 e.size
  simp only [encTail, List.append_assoc, List.drop_zero]
  exact List.take_left' h
theorem tail_many (e : DE) (X : List UInt8) : ((encTail e ++ X).drop 4).take 2 = le 2 e.pages.length := by
  simp only [encTail, List.append_assoc]
  rw [List.drop_left' (le_length 4 e.size)]
  exact List.take_left' (le_length 2 _)
theorem tail_rest (e : DE) (X : List UInt8) : (encTail e ++ X).drop 6 = les 2 e.pages ++ X := by
  simp only [encTail, List.append_assoc]
  rw [show 6 = 4 + 2 from rfl, ← List.drop_drop, List.drop_left' (le_length 4 e.size), List.drop_left' (le_length 2 _)]
theorem les_drop (l : List Nat) (X : List UInt8) (i : Nat) (hi : i < l.length) : ((les 2 l ++ X).drop (2 * i)).take 2 = le 2 l[i] := by
  have e1 : les 2 l = les 2 (l.take i) ++ (le 2 l[i] ++ les 2 (l.drop (i + 1))) := by
    have : l = l.take i ++ (l[i] :: l.drop (i + 1)) := by rw [← List.drop_eq_getElem_cons hi, List.take_append_drop]
    conv => lhs; rw [this]
    rw [les_append]
    rfl
  rw [e1, List.append_assoc, List.drop_left' (by rw [les_length, List.length_take, Nat.min_eq_left (by omega)]), List.append_assoc]
  exact List.take_left' (le_length 2 _)
theorem les_rest (l : List Nat) (X : List UInt8) : (les 2 l ++ X).drop (2 * l.length) = X := List.drop_left' (by rw [les_length])
theorem EntRow.below {w w' : World} {base B : Nat} {v : Value} {ps : List (DE × Value)} (h : EntRow w base v ps) (hb : Below B w w') (hB : w.heap.size ≤ B) : EntRow w' base v ps :=
  ⟨own_below h.own hb hB, fun p hp => (h.at_ p hp).below hb hB⟩
theorem enc_ge (es : List DE) : es.length ≤ (enc es).length := by
  induction es with
  | nil => simp
  | cons e es ih => rw [enc_cons, List.length_append, encE_length, List.length_cons]; omega
def DirPost (C : Cn) (index : List Nat) (es : List DE) (w : World) (e : Ending) (w' : World) : Prop :=
  Below w.heap.size w w' ∧
  (((∀ q ∈ index, wholeB (C.page q) = true) ∧ ∃ v ix ps, e = .returned (.tuple #[v, ix, .bool true]) ∧ EntRow w' w.heap.size v ps ∧ ps.map (·.1) = es ∧ Rd w' ix index.length (ivs index)) ∨
   ((∃ q ∈ index, wholeB (C.page q) = false) ∧ e = .returned (.tuple #[.slice none 0 0, .slice none 0 0, .bool false])))
set_option maxRecDepth 1000000 in
set_option maxHeartbeats 2000000 in
theorem directory_any {bd bp bm : Nat} {C : Cn} (w : World) (h : DiskAt w bd bp bm C) (size : Nat) (index : List Nat) (es : List DE) (hhead : HeadIs (newestTo C 2).1 size index) (hix : ∀ q ∈ index, q < C.n)
    (hsz : size ≤ 248 * index.length) (hes : (∀ q ∈ index, wholeB (C.page q) = true) → (rooms C index).take size = enc es) (hfit : ∀ e ∈ es, e.fits) :
    Calls Try.prog 58 #[.pointer (some ⟨bd, 0, none⟩)] w (DirPost C index es w) := by
  go_enter Try.func58, Try.ntmps58
  go_wp2_with fail
  refine (newest_any w h).mono ?_
  rintro e w1 ⟨rfl, b1⟩
  generalize hP : (newestTo C 2).1 = P at *
  have hPl := hhead.len
  have HPl := Lib.hid hPl; clear hPl hP
  have tok1 : True := trivial
  have hz256 : (bvs zp).toArray.size = 256 := by simp [bvs, zp_length]
  have HZ := Lib.hid hz256; clear hz256
  go_wp2_with (refine al81n rfl rfl ?_)
  intro w2 h2 hs2 b2
  have H2 := Lib.hid h2; clear h2
  go_wp2_with (refine st81 rfl _ _ rfl rfl rfl HPl.out H2.out HZ.out ?_)
  intro w3 h3 c3
  have H3 := Lib.hid h3; clear h3 H2
  have hs3 : w2.heap.size ≤ w3.heap.size := Nat.le_of_eq c3.size.symm
  have hs1 := b1.size
  have d3 : Below w1.heap.size w1 w3 := b2.trans (c3.below (Nat.le_refl _))
  go_wp2_with fail
  refine (number_rd (n := 2) (by have := HPl.out; simp; omega) (by decide) _ _ (Rd_sub H3.out 8 2 248 (by rw [HPl.out]; decide))).mono ?_
  rintro e w' ⟨rfl, rfl⟩
  have hn8 := hhead.n
  rw [hn8]
  clear hn8
  have hsm := hhead.small
  unfold iv
  have hl3 : w1.heap.size + 1 ≤ w3.heap.size := by omega
  have HH := Lib.hid hhead; clear hhead
  go_wp2_with fail
  go_loopw [8, 25] (fun ix i wr => ∃ k : Nat, k ≤ index.length ∧ i = .int .i64 k ∧ Below w3.heap.size w3 wr ∧ wr.ownsRow w3.heap.size 3 1 ix k (ivs (index.take k)))
    (fun _ i _ => index.length - (intOf i).toNat)
  case atStart => exact ⟨0, by omega, rfl, Below.refl _ _, World.ownsRow_nil _ _ _ _⟩
  case round =>
    obtain ⟨k, hk, rfl, br, own⟩ := hrel
    have H3r := Lib.hid ((br.block w1.heap.size (by omega)).trans H3.out)
    by_cases hlt : k < index.length
    · have hat := HH.out.at_ k hlt
      have htk : index.take (k + 1) = index.take k ++ [index[k]] := List.take_succ_eq_append_getElem hlt
      generalize hQ : index[k] = q at *
      have HAT := Lib.hid hat; have HTK := Lib.hid htk; clear hat htk hQ
      have hsr := br.size
      have hk1 : k + 1 ≤ 1000000000 := by omega
      go_wp2_with (refine sla_lh rfl _ _ _ rfl rfl (10 + 2 * k) 2 (246 - 2 * k) rfl (by omega) rfl (by omega) (by omega) (by omega) (by omega) ?_)
      refine (number_rd (n := 2) (by have := HPl.out; simp; omega) (by decide) _ _ (Rd_sub H3r.out (10 + 2 * k) 2 (246 - 2 * k) (by rw [HPl.out]; omega) (by omega) (by unfold maxLen; omega))).mono ?_
      rintro e w' ⟨rfl, rfl⟩
      rw [HAT.out]
      unfold iv
      go_wp2_with (at_builtin; refine app_one el51 rfl _ _ rfl rfl own rfl rfl rfl hk1 br.size ?_)
      intro v5 w5 o5 _ b5
      go_wp2
      go_roundw
      case rel => exact ⟨k + 1, by omega, by go_num, br.trans b5, by rw [HTK.out]; simpa [ivs, iv] using o5⟩
      case measure => simp [intOf]; omega
    · obtain rfl : k = index.length := by omega
      rw [List.take_length] at own
      go_wp2_with (refine sla_lh rfl _ _ _ rfl rfl 4 4 252 rfl (by decide) rfl (by decide) (by decide) (by decide) (by decide) ?_)
      refine (number_rd (n := 4) (by have := HPl.out; simp; omega) (by decide) _ _ (Rd_sub H3r.out 4 4 252 (by rw [HPl.out]; decide))).mono ?_
      rintro e w' ⟨rfl, rfl⟩
      rw [HH.out.size]
      unfold iv
      have hdr : DiskAt wr bd bp bm C := h.below (b1.trans ((d3.mono b1.size).trans (br.mono (by omega)))) (Nat.le_refl _)
      have hbr : Below w.heap.size w wr := b1.trans ((d3.mono b1.size).trans (br.mono (by omega)))
      go_wp2_with fail
      refine (read_any wr hdr index hix (by omega) size hsz _ (Rd_own own)).mono ?_
      rintro e w4 ⟨b4, hread⟩
      have hb4 : Below w.heap.size w w4 := hbr.trans (b4.mono hbr.size)
      have own4 := own_below own b4 (Nat.le_refl _)
      have hs4 := b4.size
      have hs4' := br.size
      rcases hread with ⟨hall, v4, rfl, r4⟩ | ⟨hbad, rfl⟩
      · have hes' := hes hall
        have rl : size = (enc es).length := by
          rw [← hes', List.length_take, rooms_length C h.len index hix]; omega
        rw [hes', rl] at r4
        have hesl : es.length ≤ 24800 := by have := enc_ge es; omega
        clear hes' rl
        go_wp2_with fail
        go_loopw [10, 12] (fun b l wr => ∃ (done : List (DE × Value)) (rest : List DE), Hid (es = done.map (·.1) ++ rest) ∧ Rd w4 b (enc rest).length (bvs (enc rest)) ∧ EntRow wr w4.heap.size l done ∧ Below w4.heap.size w4 wr)
          (fun b _ _ => sliceLen b)
        case atStart => exact ⟨[], es, rfl, r4, ⟨World.ownsRow_nil _ _ _ _, by simp⟩, Below.refl _ _⟩
        case round =>
          obtain ⟨done, rest, hsplit, hb, hrow, hbw⟩ := hrel
          cases rest with
          | nil =>
            obtain ⟨A, c, rfl, -⟩ := hb
            have hse : es = done.map (·.1) := by have := hsplit.out; simpa using this
            have HSE := Lib.hid hse; clear hse
            go_wp2
            go_ret3
            exact ⟨hb4.trans (hbw.mono hb4.size), .inl ⟨hall, _, _, done, rfl, ⟨own_base hrow.own hb4.size, hrow.at_⟩, HSE.out.symm, (Rd_own own4).below hbw (Nat.le_refl _)⟩⟩
          | cons e rest =>
            obtain ⟨hn0, hn64, hsz32, hp1000, hpg⟩ := hfit e (by rw [hsplit.out]; simp)
            rw [enc_cons] at hb
            have hL := encE_length e
            have hLn : (encE e ++ enc rest).length = 7 + e.name.size + 2 * e.pages.length + (enc rest).length := by rw [List.length_append, hL]
            have hb0 := hb
            obtain ⟨A, c, rfl, hnc, hcm, hcell⟩ := hb0
            obtain ⟨b, off, rfl, hc0⟩ := hcell 0 (by rw [bvs_length, hLn]; omega)
            obtain ⟨x, rfl⟩ : ∃ x, c = 7 + e.name.size + 2 * e.pages.length + (enc rest).length + x := ⟨c - (7 + e.name.size + 2 * e.pages.length + (enc rest).length), by omega⟩
            rw [hLn] at hb
            have HB := Lib.hid hb; clear hb
            have hc0' : wr.cell? ⟨b, off, none⟩ = some (.int .u8 e.name.size) := by
              have := (hbw.cell (p := ⟨b, off + 0, none⟩) (block_lt_of_cell hc0)).trans hc0
              rw [Nat.add_zero] at this
              rw [this]
              simp [bvs, encE, bv, UInt8.toNat_ofNat', Nat.mod_eq_of_lt (show e.name.size < 256 by omega)]
            clear hc0 hcell
            have hr1 := Rd_cutB HB.out hLn 1 e.name.size _ (6 + e.name.size + 2 * e.pages.length + (enc rest).length + x) (by omega) (by omega) (by omega) (Nat.le_refl _)
            rw [enc_name] at hr1
            have hr2 := Rd_sufB HB.out hLn (1 + e.name.size) (6 + 2 * e.pages.length + (enc rest).length) (6 + 2 * e.pages.length + (enc rest).length + x) (by omega) (by omega) (by omega)
            rw [enc_tail] at hr2
            have hl2 : (encTail e ++ enc rest).length = 6 + 2 * e.pages.length + (enc rest).length := by simp only [encTail, List.length_append, le_length, les_length]; omega
            have HL2 := Lib.hid hl2; clear hl2
            have HR1 := Lib.hid (hr1.below hbw (Nat.le_refl _)); clear hr1
            have HR2 := Lib.hid hr2; clear hr2
            have hnb := nameBytes_length e.name
            have HNB := Lib.hid hnb; clear hnb
            have HLN := Lib.hid hLn; clear hLn hL
            rw [HLN.out]
            generalize hNM : e.name.size = nm at *
            generalize hPP : e.pages.length = pp at *
            generalize hRR : (enc rest).length = R at *
            have HNM := Lib.hid hNM; have HPP := Lib.hid hPP; have HRR := Lib.hid hRR; clear hNM hPP hRR
            generalize hA1 : cut (some ⟨b, off, none⟩) (1 + nm) (7 + nm + 2 * pp + R + x) 1 = A1 at *
            have hname : Value.string ⟨(nameBytes e.name).toArray⟩ = .string e.name := by simp [nameBytes]
            have HNAME := Lib.hid hname; clear hname
            have HA1 := Lib.hid hA1; clear hA1
            have tokn : True := trivial
            go_wp2_with (first | (refine sl_lh Try.underlying97 size5 rfl _ _ _ rfl rfl 1 nm (6 + nm + 2 * pp + R + x) rfl (by omega) rfl (by omega) (by omega) (by omega) ?_) | (refine cv_str rfl _ rfl rfl HR1.out HNB.out ?_; rw [HNAME.out]) | (have _t := tokn; refine sl_l Try.underlying97 size5 rfl _ _ rfl rfl (1 + nm) (6 + 2 * pp + R) (6 + 2 * pp + R + x) rfl (by omega) (by omega) (by omega) ?_; clear tokn; rw [HA1.out]))
            have hbw1 : Below w4.heap.size w4 (wr.alloc (.cells #[.string e.name, .int .i64 0, .slice none 0 0] 94)) := hbw.alloc hbw.size _
            have r3 : Rd (wr.alloc (.cells #[.string e.name, .int .i64 0, .slice none 0 0] 94)) (.slice A1 4 (6 + 2 * pp + R + x)) 4 (bvs (le 4 e.size)) := by
              have := (HR2.out.below hbw1 (Nat.le_refl _)).front 4 (6 + 2 * pp + R + x) (by omega) (by omega)
              rwa [show (bvs (encTail e ++ enc rest)).take 4 = bvs (le 4 e.size) by rw [← tail_size e (enc rest), List.drop_zero]; simp [bvs]] at this
            refine (number_rd (le_length 4 _) (by decide) _ _ r3).mono ?_
            rintro e' w' ⟨rfl, rfl⟩
            rw [num_le, Nat.mod_eq_of_lt (show e.size < 256 ^ 4 by omega)]
            unfold iv
            clear r3
            generalize hA2 : cut A1 4 (6 + 2 * pp + R + x) 1 = A2
            have HA2 := Lib.hid hA2; clear hA2
            have tok3 : True := trivial
            go_wp2_with (have _t := tok3; refine sl_lh Try.underlying97 size5 rfl _ _ _ rfl rfl 4 2 (2 + 2 * pp + R + x) rfl (by omega) rfl (by omega) (by omega) (by omega) ?_; clear tok3; rw [HA2.out])
            have hr4 := Rd_cutB HR2.out HL2.out 4 2 (6 + 2 * pp + R + x) (2 + 2 * pp + R + x) (by omega) (by omega) (by omega) (Nat.le_refl _)
            rw [tail_many, HA2.out, HPP.out] at hr4
            have hr5 := Rd_sufB HR2.out HL2.out 6 (2 * pp + R) (2 * pp + R + x) (by omega) (by omega) (by omega)
            rw [tail_rest] at hr5
            clear hbw1
            have hbw1 : Below w4.heap.size w4 (wr.alloc (.cells #[.string e.name, .int .i64 e.size, .slice none 0 0] 94)) := hbw.alloc hbw.size _
            refine (number_rd (le_length 2 _) (by decide) _ _ (hr4.below hbw1 (Nat.le_refl _))).mono ?_
            rintro e' w' ⟨rfl, rfl⟩
            rw [num_le, Nat.mod_eq_of_lt (show pp < 256 ^ 2 by omega)]
            clear hr4
            unfold iv
            generalize hA3 : cut A1 6 (6 + 2 * pp + R + x) 1 = A3 at *
            have HA3 := Lib.hid hA3; clear hA3
            have HR5 := Lib.hid hr5; clear hr5
            have hb05 : Below wr.heap.size wr (wr.alloc (.cells #[.string e.name, .int .i64 e.size, .slice none 0 0] 94)) := (Below.refl _ wr).alloc (Nat.le_refl _) _
            have hrow0 : ∀ w' : World, Below wr.heap.size wr w' → EntRow w' w4.heap.size u12 done := fun w' hb => hrow.below hb (Nat.le_refl _)
            have hobj := heap_alloc_new wr (.cells #[.string e.name, .int .i64 e.size, .slice none 0 0] 94)
            have hsz5 : wr.heap.size + 1 ≤ (wr.alloc (.cells #[.string e.name, .int .i64 e.size, .slice none 0 0] 94)).heap.size := by simp
            have hwrs := hbw.size
            generalize hG : wr.heap.size = g at *
            have HG := Lib.hid hG; clear hG
            generalize hW5 : wr.alloc (.cells #[.string e.name, .int .i64 e.size, .slice none 0 0] 94) = w5 at *
            have HOB := Lib.hid hobj; clear hobj hW5 hrow hbw HB HR1
            have hdl : done.length + 1 ≤ 1000000000 := by have := congrArg List.length hsplit.out; simp at this; omega
            have tok6 : True := trivial
            go_wp2_with (have _t := tok6; refine sl_l Try.underlying97 size5 rfl _ _ rfl rfl 6 (2 * pp + R) (2 * pp + R + x) rfl (by omega) (by omega) (by omega) ?_; clear tok6; rw [HA3.out])
            have hl5 : (les 2 e.pages ++ enc rest).length = 2 * pp + R := by rw [List.length_append, les_length, HPP.out, HRR.out]
            have HL5 := Lib.hid hl5; clear hl5
            go_loopw [77] (fun i W => ∃ (k : Nat) (v : Value), k ≤ pp ∧ i = .int .i64 k ∧ Hid (W.heap[g]? = some (.cells #[.string e.name, .int .i64 e.size, v] 94 (0, 0))) ∧ W.ownsRow (g + 1) 3 1 v k (ivs (e.pages.take k)) ∧ Below g w5 W)
              (fun i _ => pp - (intOf i).toNat)
            case atStart => exact ⟨0, _, by omega, rfl, HOB, World.ownsRow_nil _ _ _ _, Below.refl _ _⟩
            case round =>
              obtain ⟨k, v, hk, rfl, ho, hov, hbg⟩ := hrel
              have hb4r : Below w4.heap.size w4 wr := hbw1.trans (hbg.mono hwrs)
              have hszr := hbg.size
              have c2 : wr.cell? ⟨g, 2, none⟩ = some v := by rw [cell_of_row _ _ _ _ _ _ ho.out]; rfl
              have f2 : wr.frozen? ⟨g, 2, none⟩ = false := frozen_of_row _ _ _ _ _ ho.out
              by_cases hlt : k < pp
              · have hlt' : k < e.pages.length := by rw [HPP.out]; exact hlt
                have hr6 := Rd_cutB HR5.out HL5.out (2 * k) 2 (2 * pp + R + x) (2 * pp + R + x - 2 * k) (by omega) (by omega) (by omega) (Nat.le_refl _)
                rw [les_drop _ _ _ hlt'] at hr6
                have hpk := hpg _ (List.getElem_mem hlt')
                have htk : e.pages.take (k + 1) = e.pages.take k ++ [e.pages[k]] := List.take_succ_eq_append_getElem hlt'
                generalize hQ : e.pages[k] = q at *
                have HTK := Lib.hid htk; clear htk hQ hlt'
                generalize hA4 : cut A3 (2 * k) (2 * pp + R + x) 1 = A4 at *
                have HR6 := Lib.hid (hr6.below hb4r (Nat.le_refl _)); clear hr6
                have hsl : ∀ w : World, (Instr.sliceAt 97 (.slice A3 (2 * pp + R) (2 * pp + R + x)) (some (.int .i64 (2 * (k : Int)))) (some (.int .i64 (2 * (k : Int) + 2))) none).run Try.prog w = .ok (.slice A4 2 (2 * pp + R + x - 2 * k)) w := fun w => by
                  subst hA4
                  have := run_cut Try.underlying97 size5 w A3 (2 * pp + R) (2 * pp + R + x) (some (.int .i64 (2 * (k : Int)))) (some (.int .i64 (2 * (k : Int) + 2))) none (2 * k) (2 * k + 2) (2 * pp + R + x) ?_
                  · rw [this, show 2 * k + 2 - 2 * k = 2 by omega]
                  · have e1 : 2 * (k : Int) = ((2 * k : Nat) : Int) := by omega
                    have e2 : 2 * (k : Int) + 2 = ((2 * k + 2 : Nat) : Int) := by omega
                    rw [e2, e1]
                    simp only [Instr.sliceBounds, Sem.run_bind, Sem.run_pure, Result.andThen_ok, bound_ok _ _ _ _ (show 2 * k + 2 ≤ 2 * pp + R + x by omega), bound_ok _ _ _ _ (show 2 * k ≤ 2 * k + 2 by omega)]
                have HA4 := Lib.hid hA4; clear hA4
                have hk1 : k + 1 ≤ 1000000000 := by omega
                have hgs : g + 1 ≤ wr.heap.size := by omega
                have hw1 : IntKind.i64.wrap (2 * (k : Int)) = 2 * (k : Int) := IntWalk.i64_in _ (by omega)
                have hw2 : IntKind.i64.wrap (2 * (k : Int) + 2) = 2 * (k : Int) + 2 := IntWalk.i64_in _ (by omega)
                have hqm : q % 256 ^ 2 = q := Nat.mod_eq_of_lt (by omega)
                have HQM := Lib.hid hqm; clear hqm
                have hovd : wr.drew.ownsRow (g + 1) 3 1 v k (ivs (e.pages.take k)) := hov
                have c2a : (wr.alloc (.cells #[.int .i64 (q : Int)] 3)).drew.cell? ⟨g, 2, none⟩ = some v := (World.cell?_alloc_lt wr _ _ (show g < wr.heap.size by omega)).trans c2
                have hgsd : g + 1 ≤ wr.drew.heap.size := hgs
                have hone : ∀ u ∈ [Value.int .i64 (q : Int)], u.oneCell' = true := by simp [Value.oneCell']
                have fin : ∀ (w' : World) (g' cap' : Nat), w'.ownsRow (g + 1) 3 1 (.slice (some ⟨g', 0, none⟩) (k + 1) cap') (k + 1) (ivs (e.pages.take k) ++ [.int .i64 (q : Int)]) → Below (g + 1) wr.drew w' →
                    Hid ((w'.setCell ⟨g, 2, none⟩ (.slice (some ⟨g', 0, none⟩) (k + 1) cap')).heap[g]? = some (.cells #[.string e.name, .int .i64 e.size, .slice (some ⟨g', 0, none⟩) (k + 1) cap'] 94 (0, 0))) ∧
                    (w'.setCell ⟨g, 2, none⟩ (.slice (some ⟨g', 0, none⟩) (k + 1) cap')).ownsRow (g + 1) 3 1 (.slice (some ⟨g', 0, none⟩) (k + 1) cap') (k + 1) (ivs (e.pages.take (k + 1))) ∧
                    Below g w5 (w'.setCell ⟨g, 2, none⟩ (.slice (some ⟨g', 0, none⟩) (k + 1) cap')) := fun w' g' cap' o' b' => by
                  refine ⟨?_, ?_, ?_⟩
                  · refine Lib.hid ?_
                    rw [heap_setCell_same w' g 2 _ 94 _ ((b'.block g (Nat.lt_succ_self g)).trans ho.out)]
                    rfl
                  · refine own_setCell ?_ _ _ (Nat.lt_succ_self g)
                    rw [HTK.out]
                    simpa [ivs, iv] using o'
                  · exact (hbg.trans ((Below.refl g wr).drew.trans (b'.mono (Nat.le_succ g)))).setCell (Nat.le_refl _) _
                clear HTK
                go_wp2
                go_region_law (first | (go_simp; go_at_call 68; refine (number_rd (le_length 2 _) (by decide) _ _ (Rd.drew HR6.out)).mono ?_; rintro e' w' ⟨rfl, rfl⟩; rw [num_le, HQM.out]; unfold iv) | (refine step_of rfl (op_app_new el51 _ _ rfl rfl hovd rfl rfl rfl hone hk1 hgsd ?_); intro v' w' o' _ b'; obtain ⟨g', cap', rfl⟩ := ownsRow_some o' (Nat.succ_pos k); have c2' := (b'.cell (p := ⟨g, 2, none⟩) (Nat.lt_succ_self g)).trans c2; have f2' := (b'.frozen (p := ⟨g, 2, none⟩) (Nat.lt_succ_self g)).trans f2))
                all_goals
                  go_wp2
                  go_roundw
                  case rel => exact ⟨k + 1, _, by omega, by go_num, fin _ _ _ o' b'⟩
                  case measure => simp [intOf]; omega
              · obtain rfl : k = pp := by omega
                have htp : e.pages.take k = e.pages := List.take_of_length_le (by rw [HPP.out]; exact Nat.le_refl _)
                rw [htp] at hov
                have c0 : wr.cell? ⟨g, 0, none⟩ = some (.string e.name) := by rw [cell_of_row _ _ _ _ _ _ ho.out]; rfl
                have c1 : wr.cell? ⟨g, 1, none⟩ = some (.int .i64 e.size) := by rw [cell_of_row _ _ _ _ _ _ ho.out]; rfl
                have hrow6 := hrow0 wr (hb05.trans hbg)
                have hr7 := Rd_sufB HR5.out HL5.out (2 * k) R (R + x) (by omega) (by omega) (by omega)
                rw [show (les 2 e.pages ++ enc rest).drop (2 * k) = enc rest by have := les_rest e.pages (enc rest); rwa [HPP.out] at this] at hr7
                generalize hA5 : cut A3 (2 * k) (2 * k + R + x) 1 = A5 at *
                have HR7 := Lib.hid hr7; have HA5 := Lib.hid hA5; clear hr7 hA5
                have hw1 : IntKind.i64.wrap (2 * (k : Int)) = 2 * (k : Int) := IntWalk.i64_in _ (by omega)
                have hone : ∀ u ∈ [Value.string e.name, .int .i64 (e.size : Int), v], u.oneCell' = true := by
                  obtain ⟨A, c, hv, _⟩ := IntsAt.own (pages := e.pages) (by rw [HPP.out]; exact hov)
                  subst hv
                  simp [Value.oneCell']
                have hbs := hb4r.size
                have hin : IntsAt wr v e.pages := IntsAt.own (by rw [HPP.out]; exact hov)
                have hcells : (done.flatMap peCells).length = done.length * 3 := peCells_length done
                have HOWN := Lib.hid hrow6.own
                clear hcells htp
                have tok7 : True := trivial
                go_wp2_with (first | (have _t := tok7; refine sl_l Try.underlying97 size5 rfl _ _ rfl rfl (2 * k) R (R + x) rfl (by omega) (by omega) (by omega) ?_; clear tok7; rw [HA5.out]) | (at_builtin; refine app_new el83 rfl _ _ rfl rfl HOWN.out rfl rfl rfl hone hdl hbs ?_))
                intro v6 w6 o6 hg6 b6
                go_wp2
                go_roundw
                case rel =>
                  refine ⟨done ++ [(e, v)], rest, Lib.hid ?_, ?_, ⟨?_, ?_⟩, hb4r.trans b6⟩
                  · rw [hsplit.out]; simp
                  · rw [HRR.out]; exact HR7.out
                  · have e1 : (done ++ [(e, v)]).flatMap peCells = done.flatMap peCells ++ [Value.string e.name, .int .i64 (e.size : Int), v] := by rw [List.flatMap_append]; rfl
                    rw [e1, List.length_append]
                    exact o6
                  · intro p hp
                    rw [List.mem_append, List.mem_singleton] at hp
                    rcases hp with hp | rfl
                    · exact (hrow6.at_ p hp).grown hrow6.own (by decide) hg6
                    · exact hin.grown hrow6.own (by decide) hg6
                case measure => simp [sliceLen]; omega
      · go_wp2
        go_ret3
        exact ⟨hb4, .inr ⟨hbad, rfl⟩⟩
end Go.Proofs.Ytcgapfmdpchemaa
