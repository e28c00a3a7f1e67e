/- The walk of take: free pages for bytes. -/
import Derived.Test.YtcgapfmdpchemaaRound
import Derived.Great.BuildSlice
namespace Go.Proofs.Ytcgapfmdpchemaa
open Go.RowKit Go.Shelf
attribute [local go_sem] Oper.semAt_some
/-- a slice of numbers, on a row of numbers below B -/
def IntsLow (B : Nat) (w : World) (sl : Value) (ns : List Nat) : Prop :=
  ∃ A c, sl = .slice A ns.length c ∧ ns.length ≤ c ∧ c ≤ maxLen ∧
    (ns = [] ∨ ∃ b off cs fr, b < B ∧ A = some ⟨b, off, none⟩ ∧ w.heap[b]? = some (.cells cs 3 fr) ∧ ∀ j, (h : j < ns.length) → cs[off + j]? = some (iv ns[j]))
theorem IntsLow.at_ {B : Nat} {w : World} {sl : Value} {ns : List Nat} (h : IntsLow B w sl ns) : IntsAt w sl ns := by
  obtain ⟨A, c, h1, h2, h3, h⟩ := h
  refine ⟨A, c, h1, h2, h3, ?_⟩
  rcases h with h | ⟨b, off, cs, fr, _, r⟩
  · exact .inl h
  · exact .inr ⟨b, off, cs, fr, r⟩
theorem IntsAt.low {w : World} {sl : Value} {ns : List Nat} (h : IntsAt w sl ns) : IntsLow w.heap.size w sl ns := by
  obtain ⟨A, c, h1, h2, h3, h⟩ := h
  refine ⟨A, c, h1, h2, h3, ?_⟩
  rcases h with h | ⟨b, off, cs, fr, r1, r2, r3⟩
  · exact .inl h
  · exact .inr ⟨b, off, cs, fr, (Array.getElem?_eq_some_iff.1 r2).1, r1, r2, r3⟩
theorem IntsLow.kept {B : Nat} {w w' : World} {sl : Value} {ns : List Nat} (h : IntsLow B w sl ns) (hk : ∀ (b : Nat) (cs : Array Value) (fr : Nat × Nat), b < B → w.heap[b]? = some (Obj.cells cs 3 fr) → w'.heap[b]? = w.heap[b]?) : IntsLow B w' sl ns := by
  obtain ⟨A, c, h1, h2, h3, h⟩ := h
  refine ⟨A, c, h1, h2, h3, ?_⟩
  rcases h with h | ⟨b, off, cs, fr, hb, r1, r2, r3⟩
  · exact .inl h
  · exact .inr ⟨b, off, cs, fr, hb, r1, (hk b cs fr hb r2).trans r2, r3⟩
/-- a part of such a slice -/
theorem IntsLow.cut {B : Nat} {w : World} {A : Option Addr} {c : Nat} {ns : List Nat} (h : IntsLow B w (.slice A ns.length c) ns) (l r m : Nat) (hr : l + r ≤ ns.length) (hm : l + r ≤ m) (hmc : m ≤ c) : IntsLow B w (.slice (cut A l m 1) r (m - l)) ((ns.drop l).take r) := by
  obtain ⟨A', c', he, h2, h3, h⟩ := h
  cases he
  have hlen : ((ns.drop l).take r).length = r := by rw [List.length_take, List.length_drop]; omega
  refine ⟨_, _, by rw [hlen], by rw [hlen]; omega, by omega, ?_⟩
  by_cases h0 : r = 0
  · subst h0; exact .inl rfl
  · rcases h with h | ⟨b, off, cs, fr, hb, rfl, hrow, hc⟩
    · subst h; simp at hr; omega
    · refine .inr ⟨b, off + l, cs, fr, hb, ?_, hrow, fun j hj => ?_⟩
      · unfold Ytcgapfmdpchemaa.cut
        rw [if_neg (by omega), Option.map_some, Addr.add_lit, Nat.mul_one]
      · rw [hlen] at hj
        have := hc (l + j) (by omega)
        rw [Nat.add_assoc, this]
        simp
/-- a slice of bytes, on a row of bytes -/
def BytesAt (w : World) (v : Value) (L : List UInt8) : Prop :=
  ∃ A c, v = .slice A L.length c ∧ L.length ≤ c ∧ c ≤ maxLen ∧
    (L = [] ∨ ∃ b off cs fr, A = some ⟨b, off, none⟩ ∧ w.heap[b]? = some (.cells cs 5 fr) ∧ ∀ j, (h : j < L.length) → cs[off + j]? = some (bv L[j]))
theorem BytesAt.rd {w : World} {v : Value} {L : List UInt8} (h : BytesAt w v L) : Rd w v L.length (bvs L) := by
  obtain ⟨A, c, rfl, h1, h2, h⟩ := h
  refine ⟨A, c, rfl, h1, h2, fun j hj => ?_⟩
  rw [bvs_length] at hj
  rcases h with rfl | ⟨b, off, cs, fr, rfl, hb, hc⟩
  · simp at hj
  · exact ⟨b, off, rfl, by rw [cell_of_row _ _ _ _ _ _ hb, hc j hj]; simp [bvs]⟩
theorem BytesAt.kept {w w' : World} {v : Value} {L : List UInt8} (h : BytesAt w v L) (hk : ∀ (b : Nat) (cs : Array Value) (fr : Nat × Nat), w.heap[b]? = some (Obj.cells cs 5 fr) → w'.heap[b]? = w.heap[b]?) : BytesAt w' v L := by
  obtain ⟨A, c, rfl, h1, h2, h⟩ := h
  refine ⟨A, c, rfl, h1, h2, ?_⟩
  rcases h with rfl | ⟨b, off, cs, fr, rfl, hb, hc⟩
  · exact .inl rfl
  · exact .inr ⟨b, off, cs, fr, rfl, (hk b cs fr hb).trans hb, hc⟩
theorem BytesAt.own {w : World} {base : Nat} {v : Value} {L : List UInt8} (h : w.ownsRow base 5 1 v L.length (bvs L)) : BytesAt w v L := by
  rcases h.2 with ⟨rfl, h0⟩ | ⟨g, cap, cur, rfl, _, hg, hnc, hcm, hcs, ht⟩
  · obtain rfl := List.eq_nil_of_length_eq_zero h0
    exact ⟨none, 0, rfl, Nat.le_refl _, by decide, .inl rfl⟩
  · refine ⟨_, cap, rfl, hnc, hcm, .inr ⟨g, 0, cur, _, rfl, hg, fun j hj => ?_⟩⟩
    have h1 : (bvs L)[j]? = some (bv L[j]) := by simp [bvs, hj]
    rw [← ht, List.getElem?_take, if_pos (by omega)] at h1
    simpa using h1
/-- what take does to memory: nothing but to the record of the work, and to rows of pages and of numbers from base on -/
structure TK (base bw : Nat) (w w' : World) : Prop where
  os : w'.os = w.os
  tape : w'.tape = w.tape
  output : w'.output = w.output
  size : w.heap.size ≤ w'.heap.size
  block : ∀ k o, w.heap[k]? = some o → k ≠ bw → (k < base ∨ ∃ cs t fr, o = .cells cs t fr ∧ t ≠ 81 ∧ t ≠ 3) → w'.heap[k]? = some o
section
variable {base bw : Nat} {a b c : World}
theorem TK.refl (base bw : Nat) (a : World) : TK base bw a a := ⟨rfl, rfl, rfl, Nat.le_refl _, fun _ _ h _ _ => h⟩
theorem TK.trans (h : TK base bw a b) (k : TK base bw b c) : TK base bw a c :=
  ⟨k.os.trans h.os, k.tape.trans h.tape, k.output.trans h.output, Nat.le_trans h.size k.size, fun i o hi hn ho => k.block i o (h.block i o hi hn ho) hn ho⟩
theorem TK.of_below {B : Nat} (h : Below B a b) (hB : a.heap.size ≤ B) : TK base bw a b := ⟨h.os, h.tape, h.output, h.size, fun k _o hk _ _ => (h.block k (Nat.lt_of_lt_of_le (Array.getElem?_eq_some_iff.1 hk).1 hB)).trans hk⟩
theorem TK.of_only (h : Only bw a b) : TK base bw a b := ⟨h.os, h.tape, h.output, Nat.le_of_eq h.size.symm, fun k _o hk hn _ => (h.block k hn).trans hk⟩
theorem TK.of_grown {t size n : Nat} {v : Value} {xs : List Value} (ho : a.ownsRow base t size v n xs) (hg : a.grownBy b v.ownBlock) (ht : t = 81 ∨ t = 3) : TK base bw a b :=
  ⟨hg.os, hg.tape, hg.output, hg.size, fun k o hk _ hc => (hg.block k (Array.getElem?_eq_some_iff.1 hk).1 fun hb => by
    have hlt : base ≤ k := (ho.lt k hb.symm).1
    obtain ⟨cs, h'⟩ := own_elem ho hb.symm
    rcases hc with hc | ⟨cs', t', fr, rfl, h1, h2⟩
    · exact absurd hc (Nat.not_lt.2 hlt)
    · rw [hk] at h'; simp at h'; rcases ht with rfl | rfl
      · exact h1 h'.2.1
      · exact h2 h'.2.1).trans hk⟩
theorem TK.drew (h : TK base bw a b) : TK base bw a b.drew := ⟨h.os, h.tape, h.output, h.size, h.block⟩
theorem TK.put (h : TK base bw a b) {D : Nat} (hD : a.heap.size ≤ D) (o : Obj) : TK base bw a (b.putObj D o) :=
  ⟨h.os, h.tape, h.output, by have := (grownBy_putObj' b D o).size; exact Nat.le_trans h.size this, fun k o' hk hn hc => by
    have h1 := h.block k o' hk hn hc
    have hlt := (Array.getElem?_eq_some_iff.1 hk).1
    exact ((grownBy_putObj' b D o).block k (Array.getElem?_eq_some_iff.1 h1).1 (fun e => by cases e; omega)).trans h1⟩
theorem TK.ints (h : TK base bw a b) {sl : Value} {ns : List Nat} (hi : IntsLow base a sl ns) {cs : Array Value} {fr : Nat × Nat} (hb : a.heap[bw]? = some (.cells cs 87 fr)) : IntsLow base b sl ns :=
  hi.kept fun k cs' fr' hk hrow => (h.block k _ hrow (by rintro rfl; rw [hb] at hrow; simp at hrow) (.inl hk)).trans hrow.symm
theorem TK.row (h : TK base bw a b) {k t : Nat} {cs : Array Value} {fr : Nat × Nat} (hk : a.heap[k]? = some (.cells cs t fr)) (hn : k ≠ bw) (h1 : t ≠ 81) (h2 : t ≠ 3) : b.heap[k]? = some (.cells cs t fr) := h.block k _ hk hn (.inr ⟨_, _, _, rfl, h1, h2⟩)
end
/-- the record of the work -/
structure WorkAt (w : World) (base bw : Nat) (vf : Value) (free : List Nat) (pgs : List (List UInt8)) (places : List Nat) : Prop where
  low : bw < base
  size : base ≤ w.heap.size
  free_ : IntsLow base w vf free
  rows : ∃ vp vl, w.heap[bw]? = some (.cells #[vf, vp, vl] 87 (0, 0)) ∧ w.ownsRow base 81 256 vp pgs.length (bvs pgs.flatten) ∧ w.ownsRow base 3 1 vl places.length (ivs places)
  long : ∀ p ∈ pgs, p.length = 256
theorem el67 : El 67 81 (pg zp) 256 256 := ⟨Try.underlying67, info81, by simp [pg, Value.cells, bvs, zp_length], by decide, by decide⟩
/-- the pages of some bytes -/
def chunksB (L : List UInt8) : List (List UInt8) := (List.range (parts L.length)).map fun k => madeB ((L.drop (248 * k)).take 248)
theorem own_slice {w : World} {base e size n : Nat} {v : Value} {xs : List Value} (h : w.ownsRow base e size v n xs) : ∃ A c, v = .slice A n c := by
  rcases h.2 with ⟨rfl, rfl⟩ | ⟨g, cap, cur, rfl, _⟩
  · exact ⟨_, _, rfl⟩
  · exact ⟨_, _, rfl⟩
theorem own_kept {w w' : World} {base e size n : Nat} {v : Value} {xs : List Value} (h : w.ownsRow base e size v n xs) (hk : ∀ (b : Nat) (cs : Array Value) (fr : Nat × Nat), base ≤ b → w.heap[b]? = some (Obj.cells cs e fr) → w'.heap[b]? = w.heap[b]?) : w'.ownsRow base e size v n xs := by
  refine ⟨h.1, ?_⟩
  rcases h.2 with h2 | ⟨g, cap, cur, rfl, h3, h4, r⟩
  · exact .inl h2
  · exact .inr ⟨g, cap, cur, rfl, h3, (hk g _ _ h3 h4).trans h4, r⟩
/-- append to an owned row of what a slice reads as, none too -/
theorem op_app_any {o : Oper} {a : Act} {w : World} {Q : Exit → Act → World → Prop} {K : Act → World → Prop} {t e size bytes : Nat} {z : Value} (el : El t e z size bytes) (s x : Operand)
    (ho : o.op = .call { callee := .builtin .append, args := #[s, x], argTypes := #[t, t] })
    {base : Nat} {v : Value} {n : Nat} {xs : List Value} (hs : a.eval s = v) (hown : w.ownsRow base e size v n xs)
    {vx : Value} {m : Nat} {news : List Value} (hx : a.eval x = vx) (hrd : Rd w vx m news) (hl : news.length = m * size) (h1 : ∀ u ∈ news, u.oneCell' = true)
    (hn : n + m ≤ 1000000000) (hbase : base ≤ w.heap.size)
    (h : ∀ v' w', w'.ownsRow base e size v' (n + m) (xs ++ news) → w.grownBy w' v.ownBlock → Below base w w' → K (a.put o.dst v') w') : o.wp Try.prog a w K Q := by
  by_cases h0 : news = []
  · subst h0
    obtain ⟨i0, hi, hz0, hz1, hz2⟩ := info_parts el.info
    obtain ⟨ad, c, rfl, _, _, hc⟩ := hrd
    have hm : m = 0 := by
      have h := Nat.mul_eq_zero.1 (show m * size = 0 by simpa using hl.symm)
      have := el.pos
      omega
    subst hm
    have hrun : (Builtin.append_ #[t, t] o.type #[v, .slice ad 0 c]).run Try.prog w = .ok v w := by
      rcases hown.2 with ⟨rfl, _⟩ | ⟨g, cap, cur, rfl, _, _, hnc, _⟩
      · cases ad <;> simp [Builtin.append_, run_underlying el.under, sizeOf, typeInfo, hi, Builtin.lenOf, Builtin.firstCells, loadCells, loadCellsFrom]
      · cases ad <;> simp [Builtin.append_, run_underlying el.under, sizeOf, typeInfo, hi, Builtin.lenOf, Builtin.firstCells, loadCells, loadCellsFrom, hnc, storeCells]
    unfold Oper.wp execOp
    simp only [ho, resolve, invoke, builtin, Sem.run_bind, Sem.run_pure, Result.andThen_ok, List.map_toArray, List.map_cons, List.map_nil, hs, hx, hrun]
    exact h v w (by simpa using hown) ⟨rfl, rfl, rfl, Nat.le_refl _, fun _ _ _ => rfl⟩ (Below.refl _ _)
  · exact op_app_rd el s x ho hs hown hx hrd hl h0 h1 hn hbase h
/-- a part read -/
theorem part_rd {w : World} {A : Option Addr} {c : Nat} {L : List UInt8} (h : Rd w (.slice A L.length c) L.length (bvs L)) (hc : L.length ≤ c) (k : Nat) (hk : 248 * k < L.length) :
    Rd w (partV A L.length c k) (((L.drop (248 * k)).take 248).length) (bvs ((L.drop (248 * k)).take 248)) ∧ ((L.drop (248 * k)).take 248).length ≤ 248 ∧ ∃ a r, partV A L.length c k = .slice a r r := by
  have hlen : ((L.drop (248 * k)).take 248).length = min 248 (L.length - 248 * k) := by simp
  refine ⟨?_, by rw [hlen]; omega, _, _, rfl⟩
  have := Rd_cutB h rfl (248 * k) (min 248 (L.length - 248 * k)) (248 * k + min 248 (L.length - 248 * k)) (min 248 (L.length - 248 * k)) (by omega) rfl (Nat.le_refl _) (by omega)
  rw [hlen]
  have e : (L.drop (248 * k)).take (min 248 (L.length - 248 * k)) = (L.drop (248 * k)).take 248 := by
    apply List.ext_getElem?
    intro j
    simp only [List.getElem?_take, List.getElem?_drop]
    grind
  rw [e] at this
  exact this
/-- the page of a part -/
def partB (L : List UInt8) (x : Part L.length) : List UInt8 := madeB ((L.drop (248 * x.1)).take 248)
theorem madeB_length (l : List UInt8) (h : l.length ≤ 248) : (madeB l).length = 256 := by
  have h1 : (spl zp 0 l).length = 256 := by rw [spl_length _ _ _ (by rw [zp_length]; omega), zp_length]
  unfold madeB
  rw [spl_length _ _ _ (by rw [h1, sumB_length]; exact Nat.le_refl 256), h1]
theorem partB_length (L : List UInt8) (x : Part L.length) : (partB L x).length = 256 := madeB_length _ (by simp; omega)
/-- what holds between two rounds of take's loop -/
def TakeI (base bw H Bs : Nat) (X vl vb : Value) (pgs : List (List UInt8)) (places : List Nat) (L : List UInt8) (w : World) (pre : List (Part L.length)) (W : World) : Prop :=
  (∃ vp, W.heap[bw]? = some (.cells #[X, vp, vl] 87 (0, 0)) ∧ W.ownsRow base 81 256 vp (pgs ++ pre.map (partB L)).length (bvs (pgs ++ pre.map (partB L)).flatten)) ∧
  W.heap[H]? = some (.cells #[.pointer (some ⟨bw, 0, none⟩)] 130 (0, 0)) ∧ W.ownsRow base 3 1 vl places.length (ivs places) ∧ BytesAt W vb L ∧ TK base bw w W ∧ W.heap[Bs]? = some (.cells #[vb] 97 (0, 0)) ∧ W.heap[Bs + 1]? = some (.cells #[.int .i64 248] 3 (0, 0))
theorem takeI_own {base bw H Bs : Nat} {X vl vb : Value} {pgs : List (List UInt8)} {places : List Nat} {L : List UInt8} {w : World} {B : Nat} (hB : w.heap.size ≤ B) : OwnFrom B (TakeI base bw H Bs X vl vb pgs places L w) := by
  rintro pre W W' row ⟨⟨vp, h1, h2⟩, h3, h4, h5, h6, h7, h8⟩ hg hr
  have hk : ∀ (b : Nat) (cs : Array Value) (t : Nat) (fr : Nat × Nat), W.heap[b]? = some (Obj.cells cs t fr) → W'.heap[b]? = W.heap[b]? := fun b cs t fr hb =>
    hg.block b (Array.getElem?_eq_some_iff.1 hb).1 fun e => by
      obtain ⟨_, o, ho, hoc⟩ := hr b e.symm
      rw [hb] at ho; cases ho; simp [Obj.isCells] at hoc
  refine ⟨⟨vp, (hk _ _ _ _ h1).trans h1, own_kept h2 fun b cs fr _ hb => hk b cs _ fr hb⟩, (hk _ _ _ _ h3).trans h3, own_kept h4 fun b cs fr _ hb => hk b cs _ fr hb, h5.kept fun b cs fr hb => hk b cs _ fr hb, ?_, (hk _ _ _ _ h7).trans h7, (hk _ _ _ _ h8).trans h8⟩
  refine ⟨hg.os.trans h6.os, hg.tape.trans h6.tape, hg.output.trans h6.output, Nat.le_trans h6.size hg.size, fun k o hk' hn hc => ?_⟩
  have h7 := h6.block k o hk' hn hc
  refine (hg.block k (Array.getElem?_eq_some_iff.1 h7).1 fun e => ?_).trans h7
  have := (hr k e.symm).1
  have := (Array.getElem?_eq_some_iff.1 hk').1
  omega
theorem TakeI.drew {base bw H Bs : Nat} {X vl vb : Value} {pgs : List (List UInt8)} {places : List Nat} {L : List UInt8} {w : World} {pre : List (Part L.length)} {W : World} (h : TakeI base bw H Bs X vl vb pgs places L w pre W) : TakeI base bw H Bs X vl vb pgs places L w pre W.drew := ⟨h.1, h.2.1, h.2.2.1, h.2.2.2.1, h.2.2.2.2.1.trans ⟨rfl, rfl, rfl, Nat.le_refl _, fun _ _ h _ _ => h⟩, h.2.2.2.2.2⟩
def TakePost (base bw : Nat) (free : List Nat) (pgs : List (List UInt8)) (places : List Nat) (L : List UInt8) (w : World) (e : Ending) (w' : World) : Prop :=
  (free.length < parts L.length ∧ e = .returned (.tuple #[.slice none 0 0, .bool false]) ∧ Below w.heap.size w w') ∨
  (parts L.length ≤ free.length ∧ ∃ vl vf', e = .returned (.tuple #[vl, .bool true]) ∧ TK base bw w w' ∧ IntsLow base w' vl (free.take (parts L.length)) ∧
    WorkAt w' base bw vf' (free.drop (parts L.length)) (pgs ++ chunksB L) (places ++ free.take (parts L.length)))
theorem ivs_append (a b : List Nat) : ivs (a ++ b) = ivs a ++ ivs b := by simp [ivs]
theorem chunks_of {L : List UInt8} {ys : List (Part L.length)} (h : ys.map (·.1) = List.range (parts L.length)) : ys.map (partB L) = chunksB L := by
  unfold chunksB
  rw [← h, List.map_map]
  rfl
/-- the end of take -/
theorem take_close (w W w6 : World) (base bw D : Nat) (X vp vl v6 vr : Value) (free : List Nat) (pgs : List (List UInt8)) (places : List Nat) (L : List UInt8) (ys : List (Part L.length)) (hHL : bw < base) (hHS : base ≤ w.heap.size) (htk : TK base bw w W)
    (hl : W.drew.ownsRow base 3 1 vl places.length (ivs places)) (g6 : W.drew.grownBy w6 vl.ownBlock) (b6 : Below base W.drew w6) (o6 : w6.ownsRow base 3 1 v6 (places.length + parts L.length) (ivs places ++ ivs (free.take (parts L.length))))
    (hr : W.heap[bw]? = some (.cells #[X, vp, vl] 87 (0, 0))) (ho : W.ownsRow base 81 256 vp (pgs ++ ys.map (partB L)).length (bvs (pgs ++ ys.map (partB L)).flatten))
    (hi1 : IntsLow base W vr (free.take (parts L.length))) (hi2 : IntsLow base W X (free.drop (parts L.length))) (hys : ys.map (·.1) = List.range (parts L.length)) (hN : parts L.length ≤ free.length) (hD : w.heap.size ≤ D) (hK : W.heap[D]? = some (.deferred (some []))) (hlong : ∀ p ∈ pgs, p.length = 256) :
    (w6.setCell ⟨bw, 2, none⟩ v6).heap[D]? = some (.deferred (some [])) ∧ TakePost base bw free pgs places L w (.returned (.tuple #[vr, .bool true])) ((w6.setCell ⟨bw, 2, none⟩ v6).putObj D (.deferred none)) := by
  have hDb : base ≤ D := by omega
  have hK6 : w6.heap[D]? = some (.deferred (some [])) := (g6.block D (Array.getElem?_eq_some_iff.1 hK).1 (fun e => by
    obtain ⟨cs, h'⟩ := own_elem hl e.symm
    rw [show W.drew.heap[D]? = W.heap[D]? from rfl, hK] at h'; cases h')).trans hK
  have hK7 : (w6.setCell ⟨bw, 2, none⟩ v6).heap[D]? = some (.deferred (some [])) := (heap_setCell_other w6 ⟨bw, 2, none⟩ D v6 (by simp; omega)).trans hK6
  refine ⟨hK7, .inr ⟨hN, vr, X, rfl, ?_, ?_, ?_⟩⟩
  · refine TK.put ?_ hD _
    refine ((htk.drew).trans (TK.of_grown hl g6 (.inr rfl))).trans (TK.of_only ⟨rfl, rfl, rfl, by simp [World.setCell], fun k hk => heap_setCell_other w6 ⟨bw, 2, none⟩ k v6 hk⟩)
  all_goals
    have hr6 := (b6.block bw hHL).trans (show W.drew.heap[bw]? = _ from hr)
    have hput : ∀ k, k ≠ D → ((w6.setCell ⟨bw, 2, none⟩ v6).putObj D (.deferred none)).heap[k]? = (w6.setCell ⟨bw, 2, none⟩ v6).heap[k]? := fun k hk => World.putObj_heap_other hk
    have hlow : ∀ k, k < base → k ≠ bw → ((w6.setCell ⟨bw, 2, none⟩ v6).putObj D (.deferred none)).heap[k]? = W.heap[k]? := fun k hk hn => by
      rw [hput k (by omega), heap_setCell_other w6 ⟨bw, 2, none⟩ k v6 hn]; exact b6.block k hk
    have hints : ∀ {sl : Value} {ns : List Nat}, IntsLow base W sl ns → IntsLow base ((w6.setCell ⟨bw, 2, none⟩ v6).putObj D (.deferred none)) sl ns := fun h => h.kept fun b cs fr hb hrow => hlow b hb (by rintro rfl; rw [hr] at hrow; simp at hrow)
  · exact hints hi1
  · refine ⟨hHL, ?_, hints hi2, ⟨vp, v6, ?_, ?_, ?_⟩, ?_⟩
    · have := ((grownBy_putObj' (w6.setCell ⟨bw, 2, none⟩ v6) D (.deferred none)).size)
      have h2 : (w6.setCell ⟨bw, 2, none⟩ v6).heap.size = w6.heap.size := by simp [World.setCell]
      have h3 := b6.size
      have h4 : W.drew.heap.size = W.heap.size := rfl
      have h5 := htk.size
      omega
    · rw [hput bw (by omega), heap_setCell_same w6 bw 2 _ 87 _ hr6]; rfl
    · rw [← chunks_of hys]
      refine own_kept ho fun b cs fr hb hrow => ?_
      have hbD : b ≠ D := by rintro rfl; rw [hK] at hrow; cases hrow
      rw [hput b hbD, heap_setCell_other w6 ⟨bw, 2, none⟩ b v6 (by simp; omega)]
      exact (grown_row hl g6 (show W.drew.heap[b]? = _ from hrow) (by decide)).trans hrow.symm
    · rw [List.length_append, List.length_take, Nat.min_eq_left hN, ivs_append]
      refine own_kept o6 fun b cs fr hb hrow => ?_
      have hbD : b ≠ D := by rintro rfl; rw [hK6] at hrow; cases hrow
      rw [hput b hbD, heap_setCell_other w6 ⟨bw, 2, none⟩ b v6 (by simp; omega)]
    · intro p hp
      rcases List.mem_append.1 hp with h | h
      · exact hlong p h
      · rw [← chunks_of hys] at h
        obtain ⟨x, _, rfl⟩ := List.mem_map.1 h
        exact partB_length L x
/-- the end of a round of take's loop -/
theorem take_round (w W w5 w7 : World) (base bw H Bs B : Nat) (X vp vl v7 vb : Value) (pgs : List (List UInt8)) (places : List Nat) (L : List UInt8) (pre : List (Part L.length)) (x : Part L.length) (hHL : bw < base) (hI : TakeI base bw H Bs X vl vb pgs places L w pre W)
    (hr : W.heap[bw]? = some (.cells #[X, vp, vl] 87 (0, 0)))
    (b5 : Below W.heap.size W w5) (o5 : w5.ownsRow base 81 256 vp (pgs ++ pre.map (partB L)).length (bvs (pgs ++ pre.map (partB L)).flatten)) (g7 : w5.grownBy w7 vp.ownBlock) (_b7 : Below base w5 w7)
    (o7 : w7.ownsRow base 81 256 v7 ((pgs ++ pre.map (partB L)).length + 1) (bvs (pgs ++ pre.map (partB L)).flatten ++ bvs (partB L x))) :
    KeepsFrom B W (w7.setCell ⟨bw, 1, none⟩ v7) ∧ KeepB Bs (Bs + 1) W (w7.setCell ⟨bw, 1, none⟩ v7) ∧ TakeI base bw H Bs X vl vb pgs places L w (pre ++ [x]) (w7.setCell ⟨bw, 1, none⟩ v7) := by
  obtain ⟨_, hh, hl, hb, htk, hbs, hbn⟩ := hI
  have hk5 : ∀ k, k < W.heap.size → w5.heap[k]? = W.heap[k]? := b5.block
  have hrow5 : ∀ {k t : Nat} {cs : Array Value} {fr : Nat × Nat}, W.heap[k]? = some (.cells cs t fr) → t ≠ 81 → w7.heap[k]? = some (.cells cs t fr) := fun {k t cs fr} hk ht =>
    grown_row o5 g7 ((hk5 k (Array.getElem?_eq_some_iff.1 hk).1).trans hk) (Ne.symm ht)
  have hset : ∀ k, k ≠ bw → (w7.setCell ⟨bw, 1, none⟩ v7).heap[k]? = w7.heap[k]? := fun k hk => heap_setCell_other w7 ⟨bw, 1, none⟩ k v7 hk
  have hrow : ∀ {k t : Nat} {cs : Array Value} {fr : Nat × Nat}, W.heap[k]? = some (.cells cs t fr) → t ≠ 81 → k ≠ bw → (w7.setCell ⟨bw, 1, none⟩ v7).heap[k]? = some (.cells cs t fr) := fun hk ht hn => (hset _ hn).trans (hrow5 hk ht)
  have hne : ∀ {k t : Nat} {cs : Array Value} {fr : Nat × Nat}, W.heap[k]? = some (.cells cs t fr) → t ≠ 87 → k ≠ bw := fun hk ht => by rintro rfl; rw [hr] at hk; simp at hk; exact ht hk.2.1.symm
  have hz : (w7.setCell ⟨bw, 1, none⟩ v7).heap.size = w7.heap.size := by simp [World.setCell]
  have hs7 := g7.size
  have hs5 := b5.size
  refine ⟨⟨by omega, fun k o _ hk ho => ?_⟩, ⟨?_, ?_⟩, ⟨v7, ?_, ?_⟩, ?_, ?_, ?_, ?_, ?_, ?_⟩
  · have h5 := (hk5 k (Array.getElem?_eq_some_iff.1 hk).1).trans hk
    have h7 := (g7.block k (Array.getElem?_eq_some_iff.1 h5).1 (fun e => by
      obtain ⟨cs, h'⟩ := own_elem o5 e.symm
      rw [h5] at h'; cases h'; simp [Obj.isCells] at ho)).trans h5
    refine (hset k ?_).trans h7
    rintro rfl; rw [hr] at hk; cases hk; simp [Obj.isCells] at ho
  · rw [hrow hbs (by decide) (hne hbs (by decide)), hbs]
  · rw [hrow hbn (by decide) (hne hbn (by decide)), hbn]
  · rw [heap_setCell_same w7 bw 1 _ 87 _ (hrow5 hr (by decide))]; rfl
  · have e1 : (pgs ++ (pre ++ [x]).map (partB L)).length = (pgs ++ pre.map (partB L)).length + 1 := by simp; omega
    have e2 : bvs (pgs ++ (pre ++ [x]).map (partB L)).flatten = bvs (pgs ++ pre.map (partB L)).flatten ++ bvs (partB L x) := by rw [← bvs_append]; congr 1; simp
    rw [e1, e2]
    exact own_setCell o7 _ _ hHL
  · exact hrow hh (by decide) (hne hh (by decide))
  · exact own_kept hl fun b cs fr _ hb' => (hrow hb' (by decide) (hne hb' (by decide))).trans hb'.symm
  · exact hb.kept fun b cs fr hb' => (hrow hb' (by decide) (hne hb' (by decide))).trans hb'.symm
  · exact ((htk.trans (TK.of_below b5 (Nat.le_refl _))).trans (TK.of_grown o5 g7 (.inl rfl))).trans (TK.of_only ⟨rfl, rfl, rfl, hz, hset⟩)
  · exact hrow hbs (by decide) (hne hbs (by decide))
  · exact hrow hbn (by decide) (hne hbn (by decide))
set_option maxRecDepth 1000000 in
set_option maxHeartbeats 4000000 in
theorem take_any (w : World) (base bw : Nat) (vf vb : Value) (free : List Nat) (pgs : List (List UInt8)) (places : List Nat) (L : List UInt8) (hW : WorkAt w base bw vf free pgs places) (hb : BytesAt w vb L) (hL : L.length ≤ 900000000)
    (hpg : pgs.length ≤ 100000) (hpl : places.length ≤ 100000) (_hfr : free.length ≤ 100000) :
    Calls Try.prog 38 #[.pointer (some ⟨bw, 0, none⟩), vb] w (TakePost base bw free pgs places L w) := by
  refine (callsIn_wide (n := 3)).1 ?_
  refine callsIn_of_wp_marks Try.func38 rfl trivial ?_ rfl
  simp only [Try.ntmps38, List.size_toArray, List.length_cons, List.length_nil, Nat.reduceAdd, Nat.reduceSub, Array.replicate_succ, Array.replicate_zero, List.push_toArray, List.append_toArray, List.nil_append, List.cons_append]
  refine wpIn_wide.2 ?_
  refine Code.wp_mono (Q := fun e a w' => match e with | .ret => bodyPostM Fence.wide 3 Try.prog Try.f38 (TakePost base bw free pgs places L w) .ret a w' | _ => False) ?_ ?_
  · intro e a w' h
    cases e <;> first | exact h | exact h.elim
  obtain ⟨Ab, cb, rfl, hcb1, hcb2, -⟩ := id hb
  obtain ⟨Af, cf, rfl, hcf1, hcf2, -⟩ := id hW.free_
  obtain ⟨vp, vl, hrow, hop, hol⟩ := hW.rows
  have HROWW := Lib.hid hrow; have HLONG := Lib.hid hW.long
  have hdiv : ((L.length : Int) + 248 - 1) / 248 = ((parts L.length : Nat) : Int) := by unfold parts; omega
  have hNs : parts L.length ≤ 100000000 := by unfold parts; omega
  have hHL := hW.low; have hHS := hW.size
  generalize hN : parts L.length = N at *
  have HN := Lib.hid hN; clear hN
  -- the receiver boxed
  obtain ⟨w0, hw0⟩ : ∃ w0, w.alloc (.cells #[.pointer (some ⟨bw, 0, none⟩)] 130) = w0 := ⟨_, rfl⟩
  have b0 : Below w.heap.size w w0 := by rw [← hw0]; exact (Below.refl _ w).alloc (Nat.le_refl _) _
  have hH0 : w0.heap[w.heap.size]? = some (.cells #[.pointer (some ⟨bw, 0, none⟩)] 130 (0, 0)) := by rw [← hw0]; exact heap_alloc_new w _
  have hs0 : w.heap.size + 1 ≤ w0.heap.size := by rw [← hw0]; simp
  have hrow0 := (b0.block bw (by omega)).trans hrow
  have hop0 := own_below hop b0 (Nat.le_refl _)
  have hol0 := own_below hol b0 (Nat.le_refl _)
  have hfl0 : IntsLow base w0 (.slice Af free.length cf) free := hW.free_.kept fun b cs fr hb _ => b0.block b (by omega)
  have hb0 : BytesAt w0 (.slice Ab L.length cb) L := hb.kept fun b cs fr hbk => b0.block b (Array.getElem?_eq_some_iff.1 hbk).1
  obtain ⟨H, hH⟩ : ∃ H, w.heap.size = H := ⟨_, rfl⟩
  have hbH : (w0.cell? ⟨H, 0, none⟩) = some (.pointer (some ⟨bw, 0, none⟩)) := by rw [← hH, cell_of_row _ _ _ _ _ _ hH0]; rfl
  obtain ⟨c0, c1, c2⟩ := cells3 hrow0
  have fz : ∀ j, w0.frozen? ⟨bw, j, none⟩ = false := fun j => frozen_of_row _ _ _ _ _ hrow0
  have HOP := Lib.hid hop0; have HOL := Lib.hid hol0; have HROW := Lib.hid hrow0; have HH0 := Lib.hid hH0; have HFL := Lib.hid hfl0; have HBB := Lib.hid hb0
  clear hop hol hrow hop0 hol0 hrow0 hH0 hfl0 hb0 hb
  by_cases hlt : free.length < N
  · have HB0 := Lib.hid b0; clear b0
    go_wp2_with fail
    refine ⟨_, results_tmp2 rfl _ _ _, .inl ⟨by rw [HN.out]; exact hlt, rfl, HB0.out⟩⟩
  · have hs1 : ∀ W : World, (Instr.sliceAt 51 (.slice Af free.length cf) none (some (.int .i64 (N : Int))) (some (.int .i64 (N : Int)))).run Try.prog W = .ok (.slice (cut Af 0 N 1) N N) W := fun W => by
      rw [run_cut Try.underlying51 size3 W Af free.length cf none (some (.int .i64 (N : Int))) (some (.int .i64 (N : Int))) 0 N N (by
        simp only [Instr.sliceBounds, Sem.run_bind, Sem.run_pure, Result.andThen_ok, bound_ok _ _ _ _ (show N ≤ cf by omega), bound_ok _ _ _ _ (Nat.le_refl N)])]
      rfl
    have hs2 : ∀ W : World, (Instr.sliceAt 51 (.slice Af free.length cf) (some (.int .i64 (N : Int))) none none).run Try.prog W = .ok (.slice (cut Af N cf 1) (free.length - N) (cf - N)) W := fun W => by
      rw [run_cut Try.underlying51 size3 W Af free.length cf (some (.int .i64 (N : Int))) none none N free.length cf (by
        simp only [Instr.sliceBounds, Sem.run_bind, Sem.run_pure, Result.andThen_ok, bound_ok _ _ _ _ (show N ≤ free.length by omega)])]
    have hfl1 := hW.free_.cut 0 N N (by omega) (by omega) (by omega)
    have hfl2 := hW.free_.cut N (free.length - N) cf (by omega) (by omega) (Nat.le_refl _)
    rw [List.drop_zero, Nat.sub_zero] at hfl1
    rw [List.take_of_length_le (by rw [List.length_drop]; exact Nat.le_refl _)] at hfl2
    have TK0 : TK base bw w w0 := TK.of_below b0 (Nat.le_refl _)
    obtain ⟨X, hX⟩ : ∃ X, (Value.slice (cut Af N cf 1) (free.length - N) (cf - N)) = X := ⟨_, rfl⟩
    have HX := Lib.hid hX
    obtain ⟨w1, hw1⟩ : ∃ w1, w0.setCell ⟨bw, 0, none⟩ (.slice (cut Af N cf 1) (free.length - N) (cf - N)) = w1 := ⟨_, rfl⟩
    have O1 : Only bw w0 w1 := by rw [← hw1]; exact ⟨rfl, rfl, rfl, by simp [World.setCell], fun k hk => heap_setCell_other w0 ⟨bw, 0, none⟩ k _ hk⟩
    have hrow1 : w1.heap[bw]? = some (.cells #[X, vp, vl] 87 (0, 0)) := by rw [← hw1, heap_setCell_same w0 bw 0 _ 87 _ HROW.out, hX]; rfl
    have hsz1 : w1.heap.size = w0.heap.size := O1.size
    obtain ⟨w2, hw2⟩ : ∃ w2, w1.alloc (.cells #[.slice Ab L.length cb] 97) = w2 := ⟨_, rfl⟩
    obtain ⟨w3, hw3⟩ : ∃ w3, w2.alloc (.cells #[.int .i64 248] 3) = w3 := ⟨_, rfl⟩
    have b12 : Below w1.heap.size w1 w2 := by rw [← hw2]; exact (Below.refl _ w1).alloc (Nat.le_refl _) _
    have b23 : Below w2.heap.size w2 w3 := by rw [← hw3]; exact (Below.refl _ w2).alloc (Nat.le_refl _) _
    have hz2 : w2.heap.size = w1.heap.size + 1 := by rw [← hw2]; simp
    have hz3 : w3.heap.size = w2.heap.size + 1 := by rw [← hw3]; simp
    have hBs : w3.heap[w1.heap.size]? = some (.cells #[.slice Ab L.length cb] 97 (0, 0)) := by
      rw [b23.block _ (by omega), ← hw2]; exact heap_alloc_new w1 _
    have hBn : w3.heap[w1.heap.size + 1]? = some (.cells #[.int .i64 248] 3 (0, 0)) := by
      rw [← hw3, show w1.heap.size + 1 = w2.heap.size by omega]; exact heap_alloc_new w2 _
    have b13 : Below w1.heap.size w1 w3 := b12.trans (b23.mono (by omega))
    have hI0 : TakeI base bw H w1.heap.size X vl (.slice Ab L.length cb) pgs places L w [] w3 := by
      refine ⟨⟨vp, (b13.block bw (by omega)).trans hrow1, ?_⟩, ?_, ?_, ?_, ?_, hBs, hBn⟩
      · have := own_kept (w' := w3) HOP.out fun b cs fr h1 h2 => (b13.block b (by have := (Array.getElem?_eq_some_iff.1 h2).1; omega)).trans (O1.block b (by omega))
        simpa using this
      · rw [b13.block H (by omega), O1.block H (by omega), ← hH]; exact HH0.out
      · exact own_kept HOL.out fun b cs fr h1 h2 => (b13.block b (by have := (Array.getElem?_eq_some_iff.1 h2).1; omega)).trans (O1.block b (by omega))
      · refine HBB.out.kept fun b cs fr h2 => (b13.block b (by have := (Array.getElem?_eq_some_iff.1 h2).1; omega)).trans (O1.block b ?_)
        rintro rfl
        rw [HROW.out] at h2; simp at h2
      · exact (TK0.trans (TK.of_only O1)).trans (TK.of_below b13 (Nat.le_refl _))
    rw [hX] at hfl2
    have HL1 := Lib.hid hfl1; have HL2 := Lib.hid hfl2; have HI0 := Lib.hid hI0; have HBS := Lib.hid hBs; have HBN := Lib.hid hBn
    have HB13 := Lib.hid b13; have HZ := Lib.hid (show w3.heap.size = w1.heap.size + 2 by omega); have HZ0 := Lib.hid (show w.heap.size + 1 ≤ w1.heap.size by omega)
    have HB0 := Lib.hid b0; clear b0
    clear hfl1 hfl2 hX hrow1 hsz1 b12 b23 hz2 hz3 hBs hBn b13 hI0 O1 TK0
    go_wp2_with fail
    go_region
    go_wp2_with (go_at_call 64; refine (chunk_any _ _ _ _).mono ?_; rintro e w' ⟨rfl, rfl⟩)
    have hp1 : w1.heap.size < w3.drew.heap.size := by have := HZ.out; show w1.heap.size < w3.heap.size; omega
    have hp2 : w1.heap.size + 1 < w3.drew.heap.size := by have := HZ.out; show w1.heap.size + 1 < w3.heap.size; omega
    have hp3 : w.heap.size ≤ w3.drew.heap.size := by have := HZ.out; have := HZ0.out; show w.heap.size ≤ w3.heap.size; omega
    refine (wpIn_wide (n := 3)).1 ?_
    refine wpIn_rangeFunc_ownG rfl (by decide) (gf := 81) (lb := #[.pointer (some ⟨w1.heap.size, 0, none⟩), .pointer (some ⟨w1.heap.size + 1, 0, none⟩)]) rfl trivial (enters_of Try.func81 (by kernel_rfl) rfl)
      (chunk_stops (3 - 1) w1.heap.size (w1.heap.size + 1) Ab L.length cb (by omega) hcb1 (by decide) w3.drew HBS.out HBN.out) keepB_t (keepB_b hp1 hp2) (Below.refl _ _) (fun _ => rfl)
      (TakeI base bw H w1.heap.size X vl (.slice Ab L.length cb) pgs places L w) (fun _ _ _ => False) (takeI_own hp3) (fun _ _ _ _ _ hs _ _ => hs) HI0.out.drew
      (fun x => { tmps := #[.pointer (some ⟨bw, 0, none⟩), .slice Ab L.length cb, .pointer (some ⟨H, 0, none⟩), undef, .slice none 0 0, .bool false, .int .i64 (N : Int), .slice (cut Af 0 N 1) N N, partV Ab L.length cb x.1,
        .slice Ab L.length cb, .int .i64 (L.length : Int), .int .i64 ((L.length : Int) + 248), .int .i64 ((L.length : Int) + 248 - 1), .int .i64 (N : Int), .int .i64 (N : Int), .pointer (some ⟨bw, 0, none⟩), .pointer (some ⟨bw, 0, none⟩), .pointer (some ⟨bw, 0, none⟩),
        .slice Af free.length cf, .int .i64 (free.length : Int), .bool false, .pointer (some ⟨bw, 0, none⟩), .pointer (some ⟨bw, 0, none⟩), .pointer (some ⟨bw, 0, none⟩), .slice Af free.length cf, .int .i64 (N : Int), .int .i64 (N : Int), .slice (cut Af 0 N 1) N N,
        .pointer (some ⟨bw, 0, none⟩), .pointer (some ⟨bw, 0, none⟩), .pointer (some ⟨bw, 0, none⟩), .pointer (some ⟨bw, 0, none⟩), .slice Af free.length cf, .int .i64 (N : Int), .slice (cut Af N cf 1) (free.length - N) (cf - N), .pointer (some ⟨bw, 0, none⟩), .pointer (some ⟨bw, 0, none⟩), .slice Ab L.length cb,
        .func (.func 81) #[] #[.pointer (some ⟨w1.heap.size, 0, none⟩), .pointer (some ⟨w1.heap.size + 1, 0, none⟩)], partV Ab L.length cb x.1, undef, undef, undef, undef, undef, undef, undef, undef, undef, undef, undef, undef, undef, undef, undef, undef, undef, undef, undef, undef, undef], defers := [] }) ?assign ?body ?done ?stop
    case assign =>
      intro l x W K hK
      gi_wp2
      exact hK
    case body =>
      rintro l pre x W ⟨⟨vp', hr, ho⟩, hh, hl, hb', htk, hbs, hbn⟩ hlen
      obtain ⟨hrd, hp248, ap, rp, hpv⟩ := part_rd hb'.rd hcb1 x.1 x.2
      have HTI := Lib.hid (show TakeI base bw H w1.heap.size X vl (.slice Ab L.length cb) pgs places L w pre W from ⟨⟨vp', hr, ho⟩, hh, hl, hb', htk, hbs, hbn⟩)
      have hcH : W.cell? ⟨H, 0, none⟩ = some (.pointer (some ⟨bw, 0, none⟩)) := by rw [cell_of_row _ _ _ _ _ _ hh]; rfl
      obtain ⟨d0, d1, d2⟩ := cells3 hr
      refine wpIn_block ?_
      refine round_region (S := fun W' => W'.cell? ⟨H, 0, none⟩ = some (.pointer (some ⟨bw, 0, none⟩))) (by kernel_rfl) (noDefer_all (by kernel_rfl)) (by rintro ⟨a, w, h⟩; exact h) ?_
      have S0 : W.drew.cell? ⟨H, 0, none⟩ = some (.pointer (some ⟨bw, 0, none⟩)) := hcH
      have d0' : W.drew.cell? ⟨bw, 1, none⟩ = some vp' := d1
      have hMl := partB_length L x
      have hMD : madeB ((L.drop (248 * x.1)).take 248) = partB L x := rfl
      rw [hpv] at hrd
      generalize hMM : partB L x = M at *
      have HM := Lib.hid hMM; have HMD := Lib.hid hMD; have HRD := Lib.hid hrd; clear hMM hMD hrd
      rw [hpv]
      obtain ⟨i0, hi0, hz0, hz1, hz2⟩ := info_parts info81
      have hfw := Great.fill_whole (s := 256) (by decide) [pg M] ((Array.range (1 * 256)).map ((pg zp).cells[· % (pg zp).cells.size]!)) (by intro v hv; simp at hv; subst hv; simp [pg, Value.cells, bvs_length, hMl]) (by simp)
      have e1 : ([pg M].flatMap fun v => v.cells.toList).toArray = (bvs M).toArray := by simp [pg, Value.cells]
      rw [e1] at hfw
      have e2 : ∀ (a : Act), a.eval (.tmp 46) = pg M → ((#[(0, Operand.tmp 46)] : Array (Nat × Operand)).map fun (i, x) => (i, a.eval x)).toList = (([pg M].zipIdx 0).map fun x => (x.2, x.1)) := fun a ha => by simp [ha]
      have HFW := Lib.hid hfw; have HFE := Lib.hid e2; clear hfw e1 e2
      have hmany : (pgs ++ pre.map (partB L)).length + 1 ≤ 1000000000 := by
        rw [List.length_append, List.length_map]
        have : parts L.length ≤ 100000000 := by unfold parts; omega
        omega
      refine wpAnyH_take (i := 0) (v := .pointer (some ⟨bw, 0, none⟩)) rfl (by kernel_rfl) (by kernel_rfl) (by kernel_rfl) (fun _ _ _ h => h) (.inl ⟨by rfl, fun W hS => exec_load rfl rfl (ld_cell nag130 hS)⟩) S0 ?_
      refine wpAnyH_take (i := 1) (v := .pointer (some ⟨bw, 0, none⟩)) rfl (by kernel_rfl) (by kernel_rfl) (by kernel_rfl) (fun _ _ _ h => h) (.inl ⟨by rfl, fun W hS => exec_load rfl rfl (ld_cell nag130 hS)⟩) S0 ?_
      refine wpAnyH_take (i := 2) (v := .pointer (some ⟨bw, 0, none⟩)) rfl (by kernel_rfl) (by kernel_rfl) (by kernel_rfl) (fun _ _ _ h => h) (.inl ⟨by rfl, fun W hS => by kernel_rfl⟩) S0 ?_
      refine wpAnyH_take (i := 3) (v := .pointer (some ⟨bw, 1, none⟩)) rfl (by kernel_rfl) (by kernel_rfl) (by kernel_rfl) (fun _ _ _ h => h) (.inl ⟨by rfl, fun W hS => by kernel_rfl⟩) S0 ?_
      refine wpAnyH_take (i := 5) (v := .slice ap rp rp) rfl (by kernel_rfl) (by kernel_rfl) (by kernel_rfl) (fun _ _ _ h => h) (.inl ⟨by rfl, fun W hS => by kernel_rfl⟩) S0 ?_
      refine wpAnyH_all (rs := [4, 6]) (by kernel_rfl) (by simp) ?_
      intro i hi
      have hi' : i = 4 ∨ i = 6 := by simpa using hi
      rcases hi' with rfl | rfl
      · refine op_at rfl rfl ?_
        refine wp_load_cell rfl (by kernel_rfl) nag67 d0' ?_
        refine ⟨S0, ?_⟩
        refine wpAnyH_all (rs := [6]) (by kernel_rfl) (by simp) ?_
        intro i hi
        obtain rfl : i = 6 := by simpa using hi
        refine op_at rfl rfl ?_
        go_simp
        refine (made_any _ hp248 _ _ (Rd.drew HRD.out)).mono ?_
        rintro e w5 ⟨rfl, b5⟩
        rw [HMD.out]
        have b5' : Below W.heap.size W w5 := (Below.refl _ W).drew.trans b5
        have hr5 := (b5'.block _ (Array.getElem?_eq_some_iff.1 hr).1).trans hr
        have hh5 := (b5'.block _ (Array.getElem?_eq_some_iff.1 hh).1).trans hh
        have ho5 := own_below ho b5' (Nat.le_refl _)
        have hW5 : base ≤ w5.heap.size := Nat.le_trans hHS (Nat.le_trans htk.size b5'.size)
        have S5 : w5.cell? ⟨H, 0, none⟩ = some (.pointer (some ⟨bw, 0, none⟩)) := by rw [cell_of_row _ _ _ _ _ _ hh5]; rfl
        have d5 : w5.cell? ⟨bw, 1, none⟩ = some vp' := by rw [cell_of_row _ _ _ _ _ _ hr5]; rfl
        refine ⟨S5, ?_⟩
        refine wpAnyH_all (rs := [7]) (by kernel_rfl) (by simp) ?_
        intro i hi
        obtain rfl : i = 7 := by simpa using hi
        refine op_at rfl rfl ?_
        refine wp_buildSlice 67 81 1 _ rfl (bvs M).toArray i0 (pg zp) Try.underlying67 hi0 hz0 (by rw [hz1]; decide) (by rw [hz1]; decide) (by rw [hz1, HFE.out _ (by kernel_rfl)]; exact HFW.out) ?_
        have S6 : (w5.alloc (.cells (bvs M).toArray 81)).cell? ⟨H, 0, none⟩ = some (.pointer (some ⟨bw, 0, none⟩)) := by rw [World.cell?_alloc_lt _ _ _ (Array.getElem?_eq_some_iff.1 hh5).1]; exact S5
        have d6 : (w5.alloc (.cells (bvs M).toArray 81)).cell? ⟨bw, 1, none⟩ = some vp' := by rw [World.cell?_alloc_lt _ _ _ (Array.getElem?_eq_some_iff.1 hr5).1]; exact d5
        refine ⟨S6, ?_⟩
        refine wpAnyH_all (rs := [8]) (by kernel_rfl) (by simp) ?_
        intro i hi
        obtain rfl : i = 8 := by simpa using hi
        refine op_at rfl rfl ?_
        refine op_app_new el67 _ _ rfl (v := vp') (by kernel_rfl) ho5 rfl (by kernel_rfl) (by rw [bvs_length, hMl]) (oneCell_bvs M) hmany hW5 ?_
        intro v7 w7 o7 g7 b7
        have hclose := take_round w W w5 w7 base bw H w1.heap.size w3.drew.heap.size X vp' vl v7 _ pgs places L pre x hHL HTI.out hr b5' ho5 g7 b7 (by rw [HM.out]; exact o7)
        have hr7 := (b7.block bw hHL).trans hr5
        have hh7 := grown_row ho5 g7 hh5 (by decide)
        have S7 : w7.cell? ⟨H, 0, none⟩ = some (.pointer (some ⟨bw, 0, none⟩)) := by rw [cell_of_row _ _ _ _ _ _ hh7]; rfl
        have c7' : w7.cell? ⟨bw, 1, none⟩ = some vp' := by rw [cell_of_row _ _ _ _ _ _ hr7]; rfl
        obtain ⟨A7, c7, rfl⟩ := own_slice o7
        refine ⟨S7, ?_⟩
        refine wpAnyH_take (i := 9) (v := .pointer (some ⟨bw, 0, none⟩)) rfl (by kernel_rfl) (by kernel_rfl) (by kernel_rfl) (fun _ _ _ h => h) (.inl ⟨by rfl, fun W hS => by kernel_rfl⟩) S7 ?_
        refine wpAnyH_take (i := 10) (v := .pointer (some ⟨bw, 1, none⟩)) rfl (by kernel_rfl) (by kernel_rfl) (by kernel_rfl) (fun _ _ _ h => h) (.inl ⟨by rfl, fun W hS => by kernel_rfl⟩) S7 ?_
        refine wpAnyH_all (rs := [11]) (by kernel_rfl) (by simp) ?_
        intro i hi
        obtain rfl : i = 11 := by simpa using hi
        refine op_at rfl rfl ?_
        have f7 : w7.frozen? ⟨bw, 1, none⟩ = false := frozen_of_row _ _ _ _ _ hr7
        have hne : ¬ H = bw := by rintro rfl; rw [hr] at hh; simp at hh
        clear hr hh ho hl hb' htk hbs hbn
        simp only [List.length_append, List.length_map] at hclose
        have HCL := Lib.hid hclose; clear hclose
        go_simp
        exact ⟨by kernel_rfl, HCL.out⟩
      · refine op_at rfl rfl ?_
        go_simp
        refine (made_any _ hp248 _ _ (Rd.drew HRD.out)).mono ?_
        rintro e w5 ⟨rfl, b5⟩
        rw [HMD.out]
        have b5' : Below W.heap.size W w5 := (Below.refl _ W).drew.trans b5
        have hr5 := (b5'.block _ (Array.getElem?_eq_some_iff.1 hr).1).trans hr
        have hh5 := (b5'.block _ (Array.getElem?_eq_some_iff.1 hh).1).trans hh
        have ho5 := own_below ho b5' (Nat.le_refl _)
        have hW5 : base ≤ w5.heap.size := Nat.le_trans hHS (Nat.le_trans htk.size b5'.size)
        have S5 : w5.cell? ⟨H, 0, none⟩ = some (.pointer (some ⟨bw, 0, none⟩)) := by rw [cell_of_row _ _ _ _ _ _ hh5]; rfl
        have d5 : w5.cell? ⟨bw, 1, none⟩ = some vp' := by rw [cell_of_row _ _ _ _ _ _ hr5]; rfl
        refine ⟨S5, ?_⟩
        refine wpAnyH_all (rs := [4, 7]) (by kernel_rfl) (by simp) ?_
        intro i hi
        have hi' : i = 4 ∨ i = 7 := by simpa using hi
        rcases hi' with rfl | rfl
        · refine op_at rfl rfl ?_
          refine wp_load_cell rfl (by kernel_rfl) nag67 d5 ?_
          refine ⟨S5, ?_⟩
          refine wpAnyH_all (rs := [7]) (by kernel_rfl) (by simp) ?_
          intro i hi
          obtain rfl : i = 7 := by simpa using hi
          refine op_at rfl rfl ?_
          refine wp_buildSlice 67 81 1 _ rfl (bvs M).toArray i0 (pg zp) Try.underlying67 hi0 hz0 (by rw [hz1]; decide) (by rw [hz1]; decide) (by rw [hz1, HFE.out _ (by kernel_rfl)]; exact HFW.out) ?_
          have S6 : (w5.alloc (.cells (bvs M).toArray 81)).cell? ⟨H, 0, none⟩ = some (.pointer (some ⟨bw, 0, none⟩)) := by rw [World.cell?_alloc_lt _ _ _ (Array.getElem?_eq_some_iff.1 hh5).1]; exact S5
          have d6 : (w5.alloc (.cells (bvs M).toArray 81)).cell? ⟨bw, 1, none⟩ = some vp' := by rw [World.cell?_alloc_lt _ _ _ (Array.getElem?_eq_some_iff.1 hr5).1]; exact d5
          refine ⟨S6, ?_⟩
          refine wpAnyH_all (rs := [8]) (by kernel_rfl) (by simp) ?_
          intro i hi
          obtain rfl : i = 8 := by simpa using hi
          refine op_at rfl rfl ?_
          refine op_app_new el67 _ _ rfl (v := vp') (by kernel_rfl) ho5 rfl (by kernel_rfl) (by rw [bvs_length, hMl]) (oneCell_bvs M) hmany hW5 ?_
          intro v7 w7 o7 g7 b7
          have hclose := take_round w W w5 w7 base bw H w1.heap.size w3.drew.heap.size X vp' vl v7 _ pgs places L pre x hHL HTI.out hr b5' ho5 g7 b7 (by rw [HM.out]; exact o7)
          have hr7 := (b7.block bw hHL).trans hr5
          have hh7 := grown_row ho5 g7 hh5 (by decide)
          have S7 : w7.cell? ⟨H, 0, none⟩ = some (.pointer (some ⟨bw, 0, none⟩)) := by rw [cell_of_row _ _ _ _ _ _ hh7]; rfl
          have c7' : w7.cell? ⟨bw, 1, none⟩ = some vp' := by rw [cell_of_row _ _ _ _ _ _ hr7]; rfl
          obtain ⟨A7, c7, rfl⟩ := own_slice o7
          refine ⟨S7, ?_⟩
          refine wpAnyH_take (i := 9) (v := .pointer (some ⟨bw, 0, none⟩)) rfl (by kernel_rfl) (by kernel_rfl) (by kernel_rfl) (fun _ _ _ h => h) (.inl ⟨by rfl, fun W hS => by kernel_rfl⟩) S7 ?_
          refine wpAnyH_take (i := 10) (v := .pointer (some ⟨bw, 1, none⟩)) rfl (by kernel_rfl) (by kernel_rfl) (by kernel_rfl) (fun _ _ _ h => h) (.inl ⟨by rfl, fun W hS => by kernel_rfl⟩) S7 ?_
          refine wpAnyH_all (rs := [11]) (by kernel_rfl) (by simp) ?_
          intro i hi
          obtain rfl : i = 11 := by simpa using hi
          refine op_at rfl rfl ?_
          have f7 : w7.frozen? ⟨bw, 1, none⟩ = false := frozen_of_row _ _ _ _ _ hr7
          have hne : ¬ H = bw := by rintro rfl; rw [hr] at hh; simp at hh
          clear hr hh ho hl hb' htk hbs hbn
          simp only [List.length_append, List.length_map] at hclose
          have HCL := Lib.hid hclose; clear hclose
          go_simp
          exact ⟨by kernel_rfl, HCL.out⟩
        · refine op_at rfl rfl ?_
          refine wp_buildSlice 67 81 1 _ rfl (bvs M).toArray i0 (pg zp) Try.underlying67 hi0 hz0 (by rw [hz1]; decide) (by rw [hz1]; decide) (by rw [hz1, HFE.out _ (by kernel_rfl)]; exact HFW.out) ?_
          have S6 : (w5.alloc (.cells (bvs M).toArray 81)).cell? ⟨H, 0, none⟩ = some (.pointer (some ⟨bw, 0, none⟩)) := by rw [World.cell?_alloc_lt _ _ _ (Array.getElem?_eq_some_iff.1 hh5).1]; exact S5
          have d6 : (w5.alloc (.cells (bvs M).toArray 81)).cell? ⟨bw, 1, none⟩ = some vp' := by rw [World.cell?_alloc_lt _ _ _ (Array.getElem?_eq_some_iff.1 hr5).1]; exact d5
          refine ⟨S6, ?_⟩
          refine wpAnyH_all (rs := [4]) (by kernel_rfl) (by simp) ?_
          intro i hi
          obtain rfl : i = 4 := by simpa using hi
          refine op_at rfl rfl ?_
          refine wp_load_cell rfl (by kernel_rfl) nag67 d6 ?_
          refine ⟨S6, ?_⟩
          refine wpAnyH_all (rs := [8]) (by kernel_rfl) (by simp) ?_
          intro i hi
          obtain rfl : i = 8 := by simpa using hi
          refine op_at rfl rfl ?_
          refine op_app_new el67 _ _ rfl (v := vp') (by kernel_rfl) ho5 rfl (by kernel_rfl) (by rw [bvs_length, hMl]) (oneCell_bvs M) hmany hW5 ?_
          intro v7 w7 o7 g7 b7
          have hclose := take_round w W w5 w7 base bw H w1.heap.size w3.drew.heap.size X vp' vl v7 _ pgs places L pre x hHL HTI.out hr b5' ho5 g7 b7 (by rw [HM.out]; exact o7)
          have hr7 := (b7.block bw hHL).trans hr5
          have hh7 := grown_row ho5 g7 hh5 (by decide)
          have S7 : w7.cell? ⟨H, 0, none⟩ = some (.pointer (some ⟨bw, 0, none⟩)) := by rw [cell_of_row _ _ _ _ _ _ hh7]; rfl
          have c7' : w7.cell? ⟨bw, 1, none⟩ = some vp' := by rw [cell_of_row _ _ _ _ _ _ hr7]; rfl
          obtain ⟨A7, c7, rfl⟩ := own_slice o7
          refine ⟨S7, ?_⟩
          refine wpAnyH_take (i := 9) (v := .pointer (some ⟨bw, 0, none⟩)) rfl (by kernel_rfl) (by kernel_rfl) (by kernel_rfl) (fun _ _ _ h => h) (.inl ⟨by rfl, fun W hS => by kernel_rfl⟩) S7 ?_
          refine wpAnyH_take (i := 10) (v := .pointer (some ⟨bw, 1, none⟩)) rfl (by kernel_rfl) (by kernel_rfl) (by kernel_rfl) (fun _ _ _ h => h) (.inl ⟨by rfl, fun W hS => by kernel_rfl⟩) S7 ?_
          refine wpAnyH_all (rs := [11]) (by kernel_rfl) (by simp) ?_
          intro i hi
          obtain rfl : i = 11 := by simpa using hi
          refine op_at rfl rfl ?_
          have f7 : w7.frozen? ⟨bw, 1, none⟩ = false := frozen_of_row _ _ _ _ _ hr7
          have hne : ¬ H = bw := by rintro rfl; rw [hr] at hh; simp at hh
          clear hr hh ho hl hb' htk hbs hbn
          simp only [List.length_append, List.length_map] at hclose
          have HCL := Lib.hid hclose; clear hclose
          go_simp
          exact ⟨by kernel_rfl, HCL.out⟩
    case done =>
      rintro D ys W hD hys ⟨⟨vp', hr, ho⟩, hh, hl, hb', htk, hbs, hbn⟩ hK
      have hcH : W.cell? ⟨H, 0, none⟩ = some (.pointer (some ⟨bw, 0, none⟩)) := by rw [cell_of_row _ _ _ _ _ _ hh]; rfl
      obtain ⟨d0, d1, d2⟩ := cells3 hr
      have hl' : W.drew.ownsRow base 3 1 vl places.length (ivs places) := hl
      have hi1 := htk.ints HL1.out HROWW.out
      have hi2 := htk.ints HL2.out HROWW.out
      have htl : (free.take N).length = N := by rw [List.length_take]; omega
      have hrd : Rd W.drew (.slice (cut Af 0 N 1) N N) N (ivs (free.take N)) := by have := hi1.at_.rd; rwa [htl] at this
      have hone : ∀ u ∈ ivs (free.take N), u.oneCell' = true := fun u hu => by obtain ⟨q, _, rfl⟩ := List.mem_map.1 hu; rfl
      have hWs : base ≤ W.drew.heap.size := Nat.le_trans hHS htk.size
      have hln : (ivs (free.take N)).length = N * 1 := by rw [ivs_length, htl, Nat.mul_one]
      have HLN := Lib.hid hln; clear hln htl
      have hmany : places.length + N ≤ 1000000000 := by omega
      have HR := Lib.hid hr; have HH := Lib.hid hh; have HO := Lib.hid ho; have HTK := Lib.hid htk; have HK := Lib.hid hK; have HI1 := Lib.hid hi1; have HI2 := Lib.hid hi2
      have hDw : w.heap.size ≤ D := Nat.le_trans hp3 hD
      clear hr hh ho htk hK hi1 hi2 hb' hbs hbn
      have fzW : ∀ j, W.frozen? ⟨bw, j, none⟩ = false := fun j => frozen_of_row _ _ _ _ _ HR.out
      go_wp2
      go_region_law (refine step_of rfl (op_app_any el51 _ _ rfl (v := vl) rfl hl' rfl hrd HLN.out hone hmany hWs ?_); intro v6 w6 o6 g6 b6; obtain ⟨A6, c6, rfl⟩ := own_slice o6; have eH : w6.cell? ⟨H, 0, none⟩ = some (.pointer (some ⟨bw, 0, none⟩)) := (cell_of_row _ _ _ _ _ _ (grown_row hl' g6 HH.out (by decide))).trans rfl; have e2 := (b6.cell (p := ⟨bw, 2, none⟩) hHL).trans d2; have f2 := (b6.frozen (p := ⟨bw, 2, none⟩) hHL).trans (fzW 2); have HR6 := Lib.hid ((b6.block bw hHL).trans HR.out))
      all_goals go_wp2
      all_goals
        obtain ⟨hK7, hpost⟩ := take_close w W w6 base bw D X vp' vl _ _ free pgs places L ys hHL hHS HTK.out hl' g6 b6 (by rw [HN.out]; exact o6) HR.out HO.out (by rw [HN.out]; exact HI1.out) (by rw [HN.out]; exact HI2.out) hys (by rw [HN.out]; omega) hDw HK.out HLONG.out
        refine ⟨by simp, .inl ⟨_, _, rfl, run_takeDeferred hK7, ?_⟩⟩
        refine ⟨_, results_tmp2 rfl _ _ _, ?_⟩
        exact hpost
    case stop =>
      rintro D c pre W _ _ h _
      exact h.elim
end Go.Proofs.Ytcgapfmdpchemaa
