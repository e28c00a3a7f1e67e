/- The walk of slices.Insert of one entry. -/
import Derived.Test.YtcgapfmdpchemaaSplice
import Derived.Lib.AppendZeros
import Derived.Lib.Overlaps
namespace Go.Proofs.Ytcgapfmdpchemaa
open Go.RowKit
/-- append of some zeros to a row that has not the room -/
theorem run_append_grow_zeros {P : Program} (w : World) (t tn ty e : TypeId) (i : TypeInfo) (z : Value) (kn k : IntKind) (ht : P.underlying t = some (.slice e)) (htn : P.underlying tn = some (.int kn)) (hi : P.info? e = some i) (hz : i.zero = some z)
    (b : Addr) (sLen sCap : Nat) (olds : List Value) (hlo : olds.length = sLen * i.size) (holds : ∀ j v, olds[j]? = some v → w.cell? (b.add j) = some v)
    (n : Nat) (h0 : 0 < n) (hs : 0 < i.size) (hg : sCap < sLen + n) (h63 : ((sLen + n : Nat) : Int) ≤ 9223372036854775807) (h48 : n * i.bytes ≤ 281474976710656) (hfit : Builtin.nextslicecap (sLen + n) sCap * i.bytes ≤ 281474976710656) :
    (Builtin.append_ #[t, tn] ty #[.slice (some b) sLen sCap, .int k n]).run P w =
      .ok (.slice (some ⟨w.heap.size, 0, none⟩) (sLen + n) (grownCap w (sLen + n) sCap e))
        (w.drew.alloc (.cells (olds.toArray ++ Builtin.zeroCells z.cells n ++ Builtin.zeroCells z.cells (grownCap w (sLen + n) sCap e - (sLen + n))) e)) := by
  have hn : ¬ (sLen + n ≤ sCap) := by omega
  have hn0 : n ≠ 0 := by omega
  have hs0 : i.size ≠ 0 := by omega
  have hw : IntKind.i64.wrap (n : Int) = n := by rw [IntKind.wrap_i64]; omega
  have hneg : ¬ ((n : Int) < 0) := by omega
  have h63' : ¬ (9223372036854775807 < ((sLen : Int) + (n : Int))) := by omega
  have h48' : ¬ (281474976710656 < Builtin.nextslicecap (sLen + n) sCap * i.bytes) := by omega
  have h48n : ¬ (281474976710656 < (n : Int) * (i.bytes : Int)) := by
    have : ((n * i.bytes : Nat) : Int) ≤ 281474976710656 := by omega
    push_cast at this
    omega
  have hfo := run_firstCells_some (P := P) w.drew i.size sLen b sLen sCap olds hlo (by simpa using holds)
  simp [Builtin.append_, run_underlying ht, run_underlying htn, sizeOf, typeInfo, zeroValue, hi, hz, asInt, asIntOf, hw, hneg, h48n, hn, h63', h48', Question.forced, hfo, newRow, grownCap]
  intro hns
  exact absurd hns (Nat.mul_ne_zero hn0 hs0)
/-- an entry that lies in a row of its own -/
structure OneAt (w : World) (gx : Nat) (p : DE × Value) : Prop where
  row : w.heap[gx]? = some (.cells (peCells p).toArray 94 (0, 0))
  at_ : IntsAt w p.2 p.1.pages
def InsPost (base : Nat) (ps : List (DE × Value)) (i : Nat) (p : DE × Value) (w : World) (e : Ending) (w' : World) : Prop :=
  ∃ v', e = .returned v' ∧ EntRow w' base v' (ps.take i ++ p :: ps.drop i) ∧ Below base w w' ∧ Keeps 94 w w'
theorem peOne {w : World} {p : DE × Value} (h : IntsAt w p.2 p.1.pages) : ∀ u ∈ peCells p, u.oneCell' = true := fun u hu => by
  obtain ⟨A, c, hv, _⟩ := h
  simp only [peCells, List.mem_cons, List.not_mem_nil, or_false] at hu
  rcases hu with rfl | rfl | rfl
  · rfl
  · rfl
  · rw [hv]; rfl
set_option maxRecDepth 1000000 in
set_option maxHeartbeats 1000000 in
/-- at the end: appended -/
theorem insert_end (w : World) (base : Nat) (v : Value) (ps : List (DE × Value)) (h : EntRow w base v ps) (hb : base ≤ w.heap.size) (hmany : ps.length ≤ 1000000) (gx : Nat) (p : DE × Value) (hp : OneAt w gx p) :
    Calls Try.prog 39 #[v, .int .i64 ps.length, .slice (some ⟨gx, 0, none⟩) 1 1] w (InsPost base ps ps.length p w) := by
  have hown := h.own
  have hone := peOne hp.at_
  have hrd : Rd w (.slice (some ⟨gx, 0, none⟩) 1 1) 1 (peCells p) := ⟨_, _, rfl, Nat.le_refl _, by decide, fun j hj => ⟨_, _, rfl, by rw [Nat.zero_add, cell_of_row _ _ _ _ _ _ hp.row, List.getElem?_toArray, List.getElem?_eq_getElem hj]⟩⟩
  obtain ⟨A, c, rfl, hnc, hcm, -⟩ := (Rd_own3 hown)
  have hl1 : ps.length + 1 ≤ 1000000000 := by omega
  have HOWN := Lib.hid hown; have HRD := Lib.hid hrd; clear hown hrd
  have hpl : (peCells p).length = 1 * 3 := rfl
  have HPL := Lib.hid hpl; clear hpl
  have tok : True := trivial
  go_enter Try.func39, Try.ntmps39
  go_wp2_with (first | (have _t := tok; refine sl_l Try.underlying83 size94 rfl _ _ rfl rfl ps.length 0 (c - ps.length) rfl rfl (by omega) (by omega) ?_; clear tok) | (at_builtin; refine app_rd el83 rfl _ _ rfl rfl HOWN.out rfl HRD.out HPL.out hone hl1 hb ?_))
  intro v' w' o' hg b'
  go_wp2
  go_ret
  refine ⟨_, rfl, ⟨?_, fun q hq => ?_⟩, b', Keeps.of_grown HOWN.out hg⟩
  · have e1 : (ps.take ps.length ++ p :: ps.drop ps.length) = ps ++ [p] := by simp
    rw [e1, List.flatMap_append, List.length_append]
    simpa using o'
  · have e1 : (ps.take ps.length ++ p :: ps.drop ps.length) = ps ++ [p] := by simp
    rw [e1, List.mem_append, List.mem_singleton] at hq
    rcases hq with hq | rfl
    · exact (h.at_ q hq).grown HOWN.out (by decide) hg
    · exact hp.at_.grown HOWN.out (by decide) hg
/-- copy of entries into a row -/
theorem run_copy3 (w : World) (ty g o dLen dCap : Nat) (a : Addr) (sLen sCap : Nat) (L : List Value) (t : Nat) (cs : List Value) (n : Nat) (hn : n = Nat.min sLen dLen) (hcs : cs.length = n * 3)
    (hg : w.heap[g]? = some (.cells L.toArray t (0, 0))) (hsrc : ∀ j v, cs[j]? = some v → w.cell? (a.add j) = some v) (hfit : o + cs.length ≤ L.length) (h1 : ∀ v ∈ cs, v.oneCell' = true) :
    (Builtin.copy_ #[83, 83] ty #[.slice (some ⟨g, o, none⟩) dLen dCap, .slice (some a) sLen sCap]).run Try.prog w = .ok (.int .i64 (n : Int)) (w.setRow g (splV L o cs).toArray) := by
  have hl := run_loadCells_list (P := Try.prog) w a cs hsrc
  have hst := run_storeCells_at Try.prog g o t cs 0 L.toArray w hg (by simpa using hfit) h1
  rw [Nat.add_zero] at hst
  have e1 : L.toArray.toList.take o ++ cs ++ L.toArray.toList.drop (o + cs.length) = splV L o cs := rfl
  rw [e1] at hst
  have hz := run_size size94 w
  rw [hcs] at hl
  simp [Builtin.copy_, run_underlying Try.underlying83, Builtin.lenOf, Builtin.firstCells, hz, ← hn, hl, hst, goInt]
section
variable {ops : Array Oper} {rest : List Oper} {o : Oper} {a : Act} {w w' : World} {Q : Exit → Act → World → Prop} {K : Act → World → Prop}
theorem cp_op (d s : Operand) (ho : o.op = .call { callee := .builtin .copy, args := #[d, s], argTypes := #[83, 83] }) {v u v' : Value} (hd : a.eval d = v) (hs : a.eval s = u)
    (hr : (Builtin.copy_ #[83, 83] o.type #[v, u]).run Try.prog w = .ok v' w') (h : K (a.put o.dst v') w') : o.wp Try.prog a w K Q := by
  unfold Oper.wp execOp
  simp only [ho, resolve, invoke, builtin, Sem.run_bind, Sem.run_pure, Result.andThen_ok, List.map_toArray, List.map_cons, List.map_nil, hd, hs, hr]
  exact h
theorem ap_list (hgd : o.guard = none) (d s : Operand) (ho : o.op = .call { callee := .builtin .append, args := #[d, s], argTypes := #[83, 3] }) {v u v' : Value} (hd : a.eval d = v) (hs : a.eval s = u)
    (hr : (Builtin.append_ #[83, 3] o.type #[v, u]).run Try.prog w = .ok v' w') (h : wpList Try.prog ops Q rest (a.put o.dst v') w') : wpList Try.prog ops Q (o :: rest) a w :=
  wpList_plain hgd fun K hK => by
    unfold Oper.wp execOp
    simp only [ho, resolve, invoke, builtin, Sem.run_bind, Sem.run_pure, Result.andThen_ok, List.map_toArray, List.map_cons, List.map_nil, hd, hs, hr]
    exact hK _ _ h
theorem step_cp3 {E : Prop} (hg : o.guard = none) (d x : Operand) (hop : o.op = Op.call { callee := Callee.builtin Builtin.copy, args := #[d, x], argTypes := #[83, 83] })
    (v u : Value) (hd : a.eval d = v) (hx : a.eval x = u) {v' : Value} (hr : (Builtin.copy_ #[83, 83] o.type #[v, u]).run Try.prog w = .ok v' w') (hK : K (a.put o.dst v') w') :
    if Region.wanted o (yielded ops a.tmps) = true then Oper.wp Try.prog o a w K Q else E := by
  have hw : Region.wanted o (yielded ops a.tmps) = true := by simp [Region.wanted, hg]
  rw [if_pos hw]
  exact cp_op d x hop hd hx hr hK
theorem cp_list (hgd : o.guard = none) (d s : Operand) (ho : o.op = .call { callee := .builtin .copy, args := #[d, s], argTypes := #[83, 83] }) {v u v' : Value} (hd : a.eval d = v) (hs : a.eval s = u)
    (hr : (Builtin.copy_ #[83, 83] o.type #[v, u]).run Try.prog w = .ok v' w') (h : wpList Try.prog ops Q rest (a.put o.dst v') w') : wpList Try.prog ops Q (o :: rest) a w :=
  wpList_plain hgd fun _K hK => cp_op d s ho hd hs hr (hK _ _ h)
end
theorem IntsAt.setRow {w : World} {sl : Value} {pages : List Nat} (h : IntsAt w sl pages) {g : Nat} {L : Array Value} {fr : Nat × Nat} (hg : w.heap[g]? = some (.cells L 94 fr)) (M : Array Value) : IntsAt (w.setRow g M) sl pages :=
  h.only (Only.setRow w g M) hg
theorem flat_mid (ps : List (DE × Value)) (i : Nat) (p : DE × Value) (hi : i ≤ ps.length) (rst : List Value) (c : List Value) (hc : c.length = 3) :
    splV (splV (ps.flatMap peCells ++ (c ++ rst)) ((i + 1) * 3) ((ps.drop i).flatMap peCells)) (i * 3) (peCells p) = (ps.take i ++ p :: ps.drop i).flatMap peCells ++ rst := by
  have hsp : ps.flatMap peCells = (ps.take i).flatMap peCells ++ (ps.drop i).flatMap peCells := by rw [← List.flatMap_append, List.take_append_drop]
  have hti : ((ps.take i).flatMap peCells).length = i * 3 := by rw [peCells_length, List.length_take]; congr 1; omega
  have hp3 : (peCells p).length = 3 := rfl
  generalize hT : (ps.take i).flatMap peCells = T at *
  generalize hD : (ps.drop i).flatMap peCells = D at *
  rw [List.flatMap_append, List.flatMap_cons, hT, hD, hsp]
  generalize peCells p = q at *
  unfold splV
  apply List.ext_getElem?
  intro j
  simp only [List.getElem?_append, List.getElem?_take, List.getElem?_drop, List.length_append, List.length_take, List.length_drop, hti, hp3, hc]
  grind
set_option maxRecDepth 1000000 in
set_option maxHeartbeats 1000000 in
/-- in the row: there is room -/
theorem insert_room (w : World) (base g i r x : Nat) (ps : List (DE × Value)) (hin : EntIn w base g (i + 1 + r) (i + 1 + r + 1 + x) ps) (_hb : base ≤ w.heap.size) (hmany : ps.length ≤ 1000000) (gx : Nat) (hgx : gx ≠ g) (p : DE × Value) (hp : OneAt w gx p) :
    Calls Try.prog 39 #[.slice (some ⟨g, 0, none⟩) (i + 1 + r) (i + 1 + r + 1 + x), .int .i64 i, .slice (some ⟨gx, 0, none⟩) 1 1] w (InsPost base ps i p w) := by
  obtain ⟨rst, hrl, hg⟩ := hin.row
  have hlen := hin.len
  have hsmall : i + 1 + r ≤ 1000000 := by omega
  have hcapm := hin.cap_
  have hrun := Lib.run_overlaps_apart (P := Try.prog) w 83 4 94 Try.underlying83 3 (run_size size94) ⟨gx, 0, none⟩ ⟨g, (i + 1) * 3, none⟩ 1 1 (r + 1) (r + 1 + x) hgx 94 94 3 ((i + 1 + r + 1 + x) * 3) (by simp [World.shape?, hp.row, peCells]) (by
    simp only [World.shape?, hg]
    rw [List.size_toArray, List.length_append, peCells_length, hrl, hlen]
    congr 2; omega) (by omega) (frozen_of_row _ _ _ _ _ hp.row) (frozen_of_row _ _ _ _ _ hp.row)
  have hcall : (callFunc 66 #[.slice (some ⟨gx, 0, none⟩) 1 1, .slice (some ⟨g, (i + 1) * 3, none⟩) (r + 1) (r + 1 + x)]).run Try.prog w = .ok (.value (.bool false)) w := by
    rw [run_callFunc_extern Try.func66 (by kernel_rfl) (by kernel_rfl) (by kernel_rfl) (e := Extern.SlicesOverlaps.overlaps #[83, 83] #[4]) (by kernel_rfl), hrun]
    rfl
  obtain ⟨c, rst', rfl, hc3⟩ : ∃ c rst', rst = c ++ rst' ∧ c.length = 3 := ⟨rst.take 3, rst.drop 3, (List.take_append_drop 3 rst).symm, by rw [List.length_take, hrl]; omega⟩
  have hs0 : ∀ W : World, (Instr.sliceAt 83 (.slice (some ⟨g, 0, none⟩) (i + 1 + r) (i + 1 + r + 1 + x)) (some (.int .i64 (i : Int))) none none).run Try.prog W = .ok (.slice (some ⟨g, i * 3, none⟩) (r + 1) (r + 2 + x)) W := fun W => by
    have := run_cut Try.underlying83 size94 W (some ⟨g, 0, none⟩) (i + 1 + r) (i + 1 + r + 1 + x) (some (.int .i64 (i : Int))) none none i (i + 1 + r) (i + 1 + r + 1 + x) (by
      simp only [Instr.sliceBounds, Sem.run_bind, Sem.run_pure, Result.andThen_ok, bound_ok _ _ _ _ (show i ≤ i + 1 + r by omega)])
    obtain ⟨off, h1, h2⟩ := cut_some g 3 i (i + 1 + r + 1 + x)
    rw [this, h1, h2 (by omega), show i + 1 + r - i = r + 1 by omega, show i + 1 + r + 1 + x - i = r + 2 + x by omega]
  have hsF : ∀ W : World, (Instr.sliceAt 83 (.slice (some ⟨g, 0, none⟩) (i + 1 + r) (i + 1 + r + 1 + x)) none (some (.int .i64 ((i : Int) + 1 + r + 1))) none).run Try.prog W = .ok (.slice (some ⟨g, 0, none⟩) (i + 1 + r + 1) (i + 1 + r + 1 + x)) W := fun W => by
    have := run_cut Try.underlying83 size94 W (some ⟨g, 0, none⟩) (i + 1 + r) (i + 1 + r + 1 + x) none (some (.int .i64 ((i : Int) + 1 + r + 1))) none 0 (i + 1 + r + 1) (i + 1 + r + 1 + x) (by
      have e : (i : Int) + 1 + r + 1 = ((i + 1 + r + 1 : Nat) : Int) := by omega
      rw [e]
      simp only [Instr.sliceBounds, Sem.run_bind, Sem.run_pure, Result.andThen_ok, bound_ok _ _ _ _ (show i + 1 + r + 1 ≤ i + 1 + r + 1 + x by omega)])
    obtain ⟨off, h1, h2⟩ := cut_some g 3 0 (i + 1 + r + 1 + x)
    rw [this, h1, h2 (by omega), Nat.zero_mul]; rfl
  have hsA : ∀ W : World, (Instr.sliceAt 83 (.slice (some ⟨g, 0, none⟩) (i + 1 + r + 1) (i + 1 + r + 1 + x)) (some (.int .i64 ((i : Int) + 1))) none none).run Try.prog W = .ok (.slice (some ⟨g, (i + 1) * 3, none⟩) (r + 1) (r + 1 + x)) W := fun W => by
    have := run_cut Try.underlying83 size94 W (some ⟨g, 0, none⟩) (i + 1 + r + 1) (i + 1 + r + 1 + x) (some (.int .i64 ((i : Int) + 1))) none none (i + 1) (i + 1 + r + 1) (i + 1 + r + 1 + x) (by
      have e : (i : Int) + 1 = ((i + 1 : Nat) : Int) := by omega
      rw [e]
      simp only [Instr.sliceBounds, Sem.run_bind, Sem.run_pure, Result.andThen_ok, bound_ok _ _ _ _ (show i + 1 ≤ i + 1 + r + 1 by omega)])
    obtain ⟨off, h1, h2⟩ := cut_some g 3 (i + 1) (i + 1 + r + 1 + x)
    rw [this, h1, h2 (by omega), show i + 1 + r + 1 - (i + 1) = r + 1 by omega, show i + 1 + r + 1 + x - (i + 1) = r + 1 + x by omega]
  have hsB : ∀ W : World, (Instr.sliceAt 83 (.slice (some ⟨g, 0, none⟩) (i + 1 + r + 1) (i + 1 + r + 1 + x)) (some (.int .i64 (i : Int))) none none).run Try.prog W = .ok (.slice (some ⟨g, i * 3, none⟩) (r + 2) (r + 2 + x)) W := fun W => by
    have := run_cut Try.underlying83 size94 W (some ⟨g, 0, none⟩) (i + 1 + r + 1) (i + 1 + r + 1 + x) (some (.int .i64 (i : Int))) none none i (i + 1 + r + 1) (i + 1 + r + 1 + x) (by
      simp only [Instr.sliceBounds, Sem.run_bind, Sem.run_pure, Result.andThen_ok, bound_ok _ _ _ _ (show i ≤ i + 1 + r + 1 by omega)])
    obtain ⟨off, h1, h2⟩ := cut_some g 3 i (i + 1 + r + 1 + x)
    rw [this, h1, h2 (by omega), show i + 1 + r + 1 - i = r + 2 by omega, show i + 1 + r + 1 + x - i = r + 2 + x by omega]
  -- the two copies
  have hpsl : (ps.flatMap peCells).length = (i + 1 + r) * 3 := by rw [peCells_length, hlen]
  have hLl : (ps.flatMap peCells ++ (c ++ rst')).length = (i + 1 + r + 1 + x) * 3 := by rw [List.length_append, hpsl, hrl]; omega
  have hDl : ((ps.drop i).flatMap peCells).length = (r + 1) * 3 := by rw [peCells_length, List.length_drop, hlen]; congr 1; omega
  have hcp1 := fun ty => run_copy3 w.drew ty g ((i + 1) * 3) (r + 1) (r + 1 + x) ⟨g, i * 3, none⟩ (r + 2) (r + 2 + x) (ps.flatMap peCells ++ (c ++ rst')) 94 ((ps.drop i).flatMap peCells) (r + 1) (by simp only [Nat.min_def]; split <;> omega) hDl hg (fun j u hu => by
      obtain ⟨hj, rfl⟩ := List.getElem?_eq_some_iff.1 hu
      rw [hDl] at hj
      rw [Addr.add_lit, cell_of_row _ _ _ _ _ _ (show w.drew.heap[g]? = _ from hg)]
      have := flat_drop ps i
      simp only [← this] at hu ⊢
      rw [List.getElem?_drop] at hu
      rw [List.getElem?_toArray, List.getElem?_append_left (by rw [hpsl]; omega), hu]) (by rw [hDl, hLl]; omega) (fun u hu => by
      obtain ⟨q, hq, hup⟩ := List.mem_flatMap.1 hu
      exact peOne (hin.at_ q (List.mem_of_mem_drop hq)) u hup)
  have hO1 := Only.setRow w.drew g (splV (ps.flatMap peCells ++ (c ++ rst')) ((i + 1) * 3) ((ps.drop i).flatMap peCells)).toArray
  have hg1 := setRow_heap w.drew g _ (splV (ps.flatMap peCells ++ (c ++ rst')) ((i + 1) * 3) ((ps.drop i).flatMap peCells)).toArray 94 _ hg
  generalize hW1 : w.drew.setRow g (splV (ps.flatMap peCells ++ (c ++ rst')) ((i + 1) * 3) ((ps.drop i).flatMap peCells)).toArray = w1 at *
  have hL1 := splV_length (ps.flatMap peCells ++ (c ++ rst')) ((i + 1) * 3) ((ps.drop i).flatMap peCells) (by rw [hDl, hLl]; omega)
  have hgx1 : w1.heap[gx]? = some (.cells (peCells p).toArray 94 (0, 0)) := (hO1.block gx hgx).trans hp.row
  have hcp2 := fun ty => run_copy3 w1 ty g (i * 3) (r + 2) (r + 2 + x) ⟨gx, 0, none⟩ 1 1 _ 94 (peCells p) 1 (by simp only [Nat.min_def]; split <;> omega) rfl hg1 (fun j u hu => by
      obtain ⟨hj, rfl⟩ := List.getElem?_eq_some_iff.1 hu
      rw [Addr.add_lit, cell_of_row _ _ _ _ _ _ hgx1, Nat.zero_add, List.getElem?_toArray, hu]) (by rw [hL1, hLl]; simp [peCells]; omega) (peOne hp.at_)
  have hmid := flat_mid ps i p (by omega) rst' c hc3
  have hg2 := setRow_heap w1 g _ (splV (splV (ps.flatMap peCells ++ (c ++ rst')) ((i + 1) * 3) ((ps.drop i).flatMap peCells)) (i * 3) (peCells p)).toArray 94 _ hg1
  have hO2 := Only.setRow w1 g (splV (splV (ps.flatMap peCells ++ (c ++ rst')) ((i + 1) * 3) ((ps.drop i).flatMap peCells)) (i * 3) (peCells p)).toArray
  have hB : Below base w w1 := (Below.refl base w).drew.trans (hO1.below hin.base_)
  have hB2 := hB.trans (hO2.below hin.base_)
  have hfin : EntIn (w1.setRow g (splV (splV (ps.flatMap peCells ++ (c ++ rst')) ((i + 1) * 3) ((ps.drop i).flatMap peCells)) (i * 3) (peCells p)).toArray) base g (i + 1 + r + 1) (i + 1 + r + 1 + x) (ps.take i ++ p :: ps.drop i) := by
    refine ⟨?_, hin.base_, by omega, hcapm, ⟨rst', ?_, ?_⟩, fun q hq => ?_⟩
    · rw [List.length_append, List.length_cons, List.length_take, List.length_drop, hlen]; omega
    · have := hrl
      rw [List.length_append, hc3] at this
      omega
    · rw [hg2, hmid]
    · have hq0 : IntsAt w q.2 q.1.pages := by
        rcases List.mem_append.1 hq with h | h
        · exact hin.at_ q (List.mem_of_mem_take h)
        · rcases List.mem_cons.1 h with rfl | h
          · exact hp.at_
          · exact hin.at_ q (List.mem_of_mem_drop h)
      exact ((hq0.only (w' := w1) (⟨hO1.os, hO1.tape, hO1.output, hO1.size, hO1.block⟩ : Only g w w1) hg)).setRow hg1 _
  have HF := Lib.hid hfin.entRow
  generalize hW2 : w1.setRow g (splV (splV (ps.flatMap peCells ++ (c ++ rst')) ((i + 1) * 3) ((ps.drop i).flatMap peCells)) (i * 3) (peCells p)).toArray = w2 at *
  have HCALL := Lib.hid hcall
  have HK := Lib.hid ((Keeps.of_only (T := 94) (⟨hO1.os, hO1.tape, hO1.output, hO1.size, hO1.block⟩ : Only g w w1) hg).trans (Keeps.of_only hO2 hg1))
  have hwr : IntKind.i64.wrap ((i : Int) + 1) = (i : Int) + 1 := by rw [IntKind.wrap_i64]; omega
  have HB2 := Lib.hid hB2
  clear hfin hmid hg2 hO2 hB hB2 hgx1 hL1 hW2 hg1 hO1 hW1 hDl hLl hpsl hrun hg hrl hc3 hlen hin hp hcall
  go_enter Try.func39, Try.ntmps39
  go_wp2_with fail
  rw [HCALL.out, Oper.upon_value]
  go_wp2_with fail
  go_region_law (refine step_cp3 rfl _ _ rfl _ _ (by simp [Act.eval, Act.put]) (by simp [Act.eval, Act.put]) (hcp1 _) ?_)
  go_wp2_with (at_builtin; refine cp_list rfl _ _ rfl (by simp [Act.eval, Act.put]) (by simp [Act.eval, Act.put]) (hcp2 _) ?_)
  go_wp2
  go_ret
  exact ⟨_, rfl, HF.out, HB2.out, HK.out⟩
end Go.Proofs.Ytcgapfmdpchemaa
/- The walk of slices.Insert of one entry, where the row has no room. -/
namespace Go.Proofs.Ytcgapfmdpchemaa
open Go.RowKit
theorem flat_new (ps : List (DE × Value)) (i : Nat) (p : DE × Value) (hi : i ≤ ps.length) (Z : List Value) (hz : (ps.length + 1 - i) * 3 ≤ Z.length) :
    splV (splV ((ps.take i).flatMap peCells ++ Z) (i * 3) (peCells p)) ((i + 1) * 3) ((ps.drop i).flatMap peCells) = (ps.take i ++ p :: ps.drop i).flatMap peCells ++ Z.drop ((ps.length + 1 - i) * 3) := by
  have hti : ((ps.take i).flatMap peCells).length = i * 3 := by rw [peCells_length, List.length_take]; congr 1; omega
  have hdi : ((ps.drop i).flatMap peCells).length = (ps.length - i) * 3 := by rw [peCells_length, List.length_drop]
  have hp3 : (peCells p).length = 3 := rfl
  generalize hT : (ps.take i).flatMap peCells = T at *
  generalize hD : (ps.drop i).flatMap peCells = D at *
  rw [List.flatMap_append, List.flatMap_cons, hT, hD]
  generalize peCells p = q at *
  generalize ps.length = n at *
  unfold splV
  apply List.ext_getElem?
  intro j
  simp only [List.getElem?_append, List.getElem?_take, List.getElem?_drop, List.length_append, List.length_take, List.length_drop, hti, hp3, hdi]
  grind
set_option maxRecDepth 1000000 in
set_option maxHeartbeats 1000000 in
/-- in the row: there is no room -/
theorem insert_grow (w : World) (base g i r : Nat) (ps : List (DE × Value)) (hin : EntIn w base g (i + 1 + r) (i + 1 + r) ps) (hb : base ≤ w.heap.size) (hmany : ps.length ≤ 1000000) (gx : Nat) (p : DE × Value) (hp : OneAt w gx p) :
    Calls Try.prog 39 #[.slice (some ⟨g, 0, none⟩) (i + 1 + r) (i + 1 + r), .int .i64 i, .slice (some ⟨gx, 0, none⟩) 1 1] w (InsPost base ps i p w) := by
  obtain ⟨rst, hrl, hg⟩ := hin.row
  have hlen := hin.len
  have hsmall : i + 1 + r ≤ 1000000 := by omega
  have hgl : g < w.heap.size := (Array.getElem?_eq_some_iff.1 hg).1
  have hgxl : gx < w.heap.size := (Array.getElem?_eq_some_iff.1 hp.row).1
  obtain rfl : rst = [] := List.length_eq_zero_iff.1 (by rw [hrl]; omega)
  rw [List.append_nil] at hg
  obtain ⟨i0, hi0, hz0, hz1, hz2⟩ := info_parts info94
  have hs0 : ∀ W : World, (Instr.sliceAt 83 (.slice (some ⟨g, 0, none⟩) (i + 1 + r) (i + 1 + r)) (some (.int .i64 (i : Int))) none none).run Try.prog W = .ok (.slice (some ⟨g, i * 3, none⟩) (r + 1) (r + 1)) W := fun W => by
    have := run_cut Try.underlying83 size94 W (some ⟨g, 0, none⟩) (i + 1 + r) (i + 1 + r) (some (.int .i64 (i : Int))) none none i (i + 1 + r) (i + 1 + r) (by
      simp only [Instr.sliceBounds, Sem.run_bind, Sem.run_pure, Result.andThen_ok, bound_ok _ _ _ _ (show i ≤ i + 1 + r by omega)])
    obtain ⟨off, h1, h2⟩ := cut_some g 3 i (i + 1 + r)
    rw [this, h1, h2 (by omega), show i + 1 + r - i = r + 1 by omega]
  have hsF : ∀ W : World, (Instr.sliceAt 83 (.slice (some ⟨g, 0, none⟩) (i + 1 + r) (i + 1 + r)) none (some (.int .i64 (i : Int))) none).run Try.prog W = .ok (.slice (some ⟨g, 0, none⟩) i (i + 1 + r)) W := fun W => by
    have := run_cut Try.underlying83 size94 W (some ⟨g, 0, none⟩) (i + 1 + r) (i + 1 + r) none (some (.int .i64 (i : Int))) none 0 i (i + 1 + r) (by
      simp only [Instr.sliceBounds, Sem.run_bind, Sem.run_pure, Result.andThen_ok, bound_ok _ _ _ _ (show i ≤ i + 1 + r by omega)])
    obtain ⟨off, h1, h2⟩ := cut_some g 3 0 (i + 1 + r)
    rw [this, h1, h2 (by omega), Nat.zero_mul]; rfl
  have hTl : ((ps.take i).flatMap peCells).length = i * 3 := by rw [peCells_length, List.length_take]; congr 1; omega
  have hgrow := fun ty => run_append_grow_zeros (P := Try.prog) w 83 3 ty 94 i0 _ .i64 .i64 Try.underlying83 Try.underlying3 hi0 hz0 ⟨g, 0, none⟩ i (i + 1 + r) ((ps.take i).flatMap peCells) (by rw [hTl, hz1]) (fun j u hu => by
      obtain ⟨hj, rfl⟩ := List.getElem?_eq_some_iff.1 hu
      rw [hTl] at hj
      rw [Addr.add_lit, cell_of_row _ _ _ _ _ _ hg, Nat.zero_add, List.getElem?_toArray]
      have hsp : ps.flatMap peCells = (ps.take i).flatMap peCells ++ (ps.drop i).flatMap peCells := by rw [← List.flatMap_append, List.take_append_drop]
      rw [hsp, List.getElem?_append_left (by rw [hTl]; omega), hu]) (r + 2) (by omega) (by rw [hz1]; omega) (by omega) (by omega) (by rw [hz2]; omega) (by
      rw [hz2]
      have := nextslicecap_le (need := i + (r + 2)) (old := i + 1 + r) (by omega)
      omega)
  -- the new row
  have hC1 := grownCap_ge w (i + (r + 2)) (i + 1 + r) 94
  have hC2 := grownCap_le_maxLen w (i + (r + 2)) (i + 1 + r) 94 (by unfold maxLen; omega)
  generalize grownCap w (i + (r + 2)) (i + 1 + r) 94 = C at *
  obtain ⟨Z, hZ, hZl⟩ : ∃ Z : List Value, ((ps.take i).flatMap peCells).toArray ++ Builtin.zeroCells (Value.agg #[.string ByteArray.empty, .int .i64 0, .slice none 0 0]).cells (r + 2) ++ Builtin.zeroCells (Value.agg #[.string ByteArray.empty, .int .i64 0, .slice none 0 0]).cells (C - (i + (r + 2))) = ((ps.take i).flatMap peCells ++ Z).toArray ∧ Z.length = (C - i) * 3 := by
    refine ⟨(Builtin.zeroCells (Value.agg #[.string ByteArray.empty, .int .i64 0, .slice none 0 0]).cells (r + 2)).toList ++ (Builtin.zeroCells (Value.agg #[.string ByteArray.empty, .int .i64 0, .slice none 0 0]).cells (C - (i + (r + 2)))).toList, ?_, ?_⟩
    · apply Array.toList_inj.1; simp
    · have hc3 : (Value.agg #[.string ByteArray.empty, .int .i64 0, .slice none 0 0]).cells.size = 3 := rfl
      rw [List.length_append, Array.length_toList, Array.length_toList, size_zeroCells, size_zeroCells, hc3]; omega
  rw [hZ] at hgrow
  have hG : (w.drew.alloc (.cells ((ps.take i).flatMap peCells ++ Z).toArray 94)).heap[w.heap.size]? = some (.cells ((ps.take i).flatMap peCells ++ Z).toArray 94 (0, 0)) := heap_alloc_new w.drew _
  have hO0 : Below w.heap.size w (w.drew.alloc (.cells ((ps.take i).flatMap peCells ++ Z).toArray 94)) := (Below.refl _ w).drew.alloc (Nat.le_refl _) _
  have hs0' := hO0.size
  generalize hW0 : w.drew.alloc (.cells ((ps.take i).flatMap peCells ++ Z).toArray 94) = w0 at *
  generalize hGG : w.heap.size = G at *
  have hg0 : w0.heap[g]? = some (.cells (ps.flatMap peCells).toArray 94 (0, 0)) := (hO0.block g (by omega)).trans hg
  have hgx0 : w0.heap[gx]? = some (.cells (peCells p).toArray 94 (0, 0)) := (hO0.block gx (by omega)).trans hp.row
  have hs1 : ∀ W : World, (Instr.sliceAt 83 (.slice (some ⟨G, 0, none⟩) (i + (r + 2)) C) (some (.int .i64 (i : Int))) none none).run Try.prog W = .ok (.slice (some ⟨G, i * 3, none⟩) (r + 2) (C - i)) W := fun W => by
    have := run_cut Try.underlying83 size94 W (some ⟨G, 0, none⟩) (i + (r + 2)) C (some (.int .i64 (i : Int))) none none i (i + (r + 2)) C (by
      simp only [Instr.sliceBounds, Sem.run_bind, Sem.run_pure, Result.andThen_ok, bound_ok _ _ _ _ (show i ≤ i + (r + 2) by omega)])
    obtain ⟨off, h1, h2⟩ := cut_some G 3 i C
    rw [this, h1, h2 (by omega), show i + (r + 2) - i = r + 2 by omega]
  have hs2 : ∀ W : World, (Instr.sliceAt 83 (.slice (some ⟨G, 0, none⟩) (i + (r + 2)) C) (some (.int .i64 ((i : Int) + 1))) none none).run Try.prog W = .ok (.slice (some ⟨G, (i + 1) * 3, none⟩) (r + 1) (C - (i + 1))) W := fun W => by
    have := run_cut Try.underlying83 size94 W (some ⟨G, 0, none⟩) (i + (r + 2)) C (some (.int .i64 ((i : Int) + 1))) none none (i + 1) (i + (r + 2)) C (by
      have e : (i : Int) + 1 = ((i + 1 : Nat) : Int) := by omega
      rw [e]
      simp only [Instr.sliceBounds, Sem.run_bind, Sem.run_pure, Result.andThen_ok, bound_ok _ _ _ _ (show i + 1 ≤ i + (r + 2) by omega)])
    obtain ⟨off, h1, h2⟩ := cut_some G 3 (i + 1) C
    rw [this, h1, h2 (by omega), show i + (r + 2) - (i + 1) = r + 1 by omega]
  have hL0 : ((ps.take i).flatMap peCells ++ Z).length = C * 3 := by rw [List.length_append, hTl, hZl]; omega
  have hDl : ((ps.drop i).flatMap peCells).length = (r + 1) * 3 := by rw [peCells_length, List.length_drop, hlen]; congr 1; omega
  have hcp1 := fun ty => run_copy3 w0 ty G (i * 3) (r + 2) (C - i) ⟨gx, 0, none⟩ 1 1 ((ps.take i).flatMap peCells ++ Z) 94 (peCells p) 1 (by simp only [Nat.min_def]; split <;> omega) rfl hG (fun j u hu => by
      rw [Addr.add_lit, cell_of_row _ _ _ _ _ _ hgx0, Nat.zero_add, List.getElem?_toArray, hu]) (by rw [hL0]; simp [peCells]; omega) (peOne hp.at_)
  have hg1 := setRow_heap w0 G _ (splV ((ps.take i).flatMap peCells ++ Z) (i * 3) (peCells p)).toArray 94 _ hG
  have hO1 := Only.setRow w0 G (splV ((ps.take i).flatMap peCells ++ Z) (i * 3) (peCells p)).toArray
  have hL1 := splV_length ((ps.take i).flatMap peCells ++ Z) (i * 3) (peCells p) (by rw [hL0]; simp [peCells]; omega)
  generalize hW1 : w0.setRow G (splV ((ps.take i).flatMap peCells ++ Z) (i * 3) (peCells p)).toArray = w1 at *
  have hg1' : w1.heap[g]? = some (.cells (ps.flatMap peCells).toArray 94 (0, 0)) := (hO1.block g (by omega)).trans hg0
  have hcp2 := fun ty => run_copy3 w1.drew ty G ((i + 1) * 3) (r + 1) (C - (i + 1)) ⟨g, i * 3, none⟩ (r + 1) (r + 1) _ 94 ((ps.drop i).flatMap peCells) (r + 1) (by simp only [Nat.min_def]; split <;> omega) hDl hg1 (fun j u hu => by
      obtain ⟨hj, rfl⟩ := List.getElem?_eq_some_iff.1 hu
      rw [hDl] at hj
      rw [Addr.add_lit, cell_of_row _ _ _ _ _ _ (show w1.drew.heap[g]? = _ from hg1')]
      have := flat_drop ps i
      simp only [← this] at hu ⊢
      rw [List.getElem?_drop] at hu
      rw [List.getElem?_toArray, hu]) (by rw [hDl, hL1, hL0]; omega) (fun u hu => by
      obtain ⟨q, hq, hup⟩ := List.mem_flatMap.1 hu
      exact peOne (hin.at_ q (List.mem_of_mem_drop hq)) u hup)
  have hnew := flat_new ps i p (by omega) Z (by rw [hZl]; apply Nat.mul_le_mul_right; omega)
  have hg2 := setRow_heap w1.drew G _ (splV (splV ((ps.take i).flatMap peCells ++ Z) (i * 3) (peCells p)) ((i + 1) * 3) ((ps.drop i).flatMap peCells)).toArray 94 _ hg1
  have hO2 := Only.setRow w1.drew G (splV (splV ((ps.take i).flatMap peCells ++ Z) (i * 3) (peCells p)) ((i + 1) * 3) ((ps.drop i).flatMap peCells)).toArray
  have hB2 : Below base w (w1.drew.setRow G (splV (splV ((ps.take i).flatMap peCells ++ Z) (i * 3) (peCells p)) ((i + 1) * 3) ((ps.drop i).flatMap peCells)).toArray) := ((hO0.mono hb).trans (hO1.below hb)).drew.trans (hO2.below hb)
  have hB2' : Below G w (w1.drew.setRow G (splV (splV ((ps.take i).flatMap peCells ++ Z) (i * 3) (peCells p)) ((i + 1) * 3) ((ps.drop i).flatMap peCells)).toArray) := (hO0.trans (hO1.below (Nat.le_refl _))).drew.trans (hO2.below (Nat.le_refl _))
  have hfin : EntIn (w1.drew.setRow G (splV (splV ((ps.take i).flatMap peCells ++ Z) (i * 3) (peCells p)) ((i + 1) * 3) ((ps.drop i).flatMap peCells)).toArray) base G (i + (r + 2)) C (ps.take i ++ p :: ps.drop i) := by
    refine ⟨?_, hb, by omega, hC2, ⟨Z.drop ((ps.length + 1 - i) * 3), ?_, ?_⟩, fun q hq => ?_⟩
    · rw [List.length_append, List.length_cons, List.length_take, List.length_drop, hlen]; omega
    · rw [List.length_drop, hZl, hlen, ← Nat.sub_mul]; congr 1; omega
    · rw [hg2, hnew]
    · have hq0 : IntsAt w q.2 q.1.pages := by
        rcases List.mem_append.1 hq with h | h
        · exact hin.at_ q (List.mem_of_mem_take h)
        · rcases List.mem_cons.1 h with rfl | h
          · exact hp.at_
          · exact hin.at_ q (List.mem_of_mem_drop h)
      exact hq0.below hB2' (by omega)
  have HF := Lib.hid hfin.entRow
  generalize hW2 : w1.drew.setRow G (splV (splV ((ps.take i).flatMap peCells ++ Z) (i * 3) (peCells p)) ((i + 1) * 3) ((ps.drop i).flatMap peCells)).toArray = w2 at *
  have HB2 := Lib.hid hB2; have HK := Lib.hid (Keeps.of_below (T := 94) (show Below w.heap.size w w2 from hGG ▸ hB2'))
  have hwr : IntKind.i64.wrap ((i : Int) + 1) = (i : Int) + 1 := by rw [IntKind.wrap_i64]; omega
  have hwr2 : IntKind.i64.wrap ((i : Int) + 1 + r + 1 - i) = ((r + 2 : Nat) : Int) := by rw [IntKind.wrap_i64]; omega
  have HGG := Lib.hid hGG; rw [show ((r + 2 : Nat) : Int) = (r : Int) + 2 by omega] at hgrow; have HGROW := Lib.hid hgrow; have tok : True := trivial
  clear hfin hnew hg2 hO2 hB2 hB2' hL1 hW2 hg1 hO1 hW1 hDl hL0 hgx0 hg0 hg1' hGG hW0 hO0 hG hZ hZl hTl hz0 hz1 hz2 hi0 hg hrl hlen hin hp hgrow hC1 hC2
  go_enter Try.func39, Try.ntmps39
  go_wp2_with (first | (at_builtin; have _t := tok; refine ap_list rfl _ _ rfl (v := .slice (some ⟨g, 0, none⟩) i (i + 1 + r)) (u := .int .i64 ((r : Int) + 2)) (by simp [Act.eval]) (by simp [Act.eval]) (HGROW.out _) ?_; clear tok) | (at_builtin; refine cp_list rfl _ _ rfl (by simp [Act.eval, Act.put]) (by simp [Act.eval, Act.put]) (hcp1 _) ?_))
  go_region_law (refine step_cp3 rfl _ _ rfl _ _ (by simp [Act.eval, Act.put]) (by simp [Act.eval, Act.put]) (hcp2 _) ?_)
  go_wp2
  go_ret
  exact ⟨_, rfl, HF.out, HB2.out, HK.out⟩
theorem insert_any (w : World) (base : Nat) (v : Value) (ps : List (DE × Value)) (h : EntRow w base v ps) (hb : base ≤ w.heap.size) (hmany : ps.length ≤ 1000000) (i : Nat) (hi : i ≤ ps.length) (gx : Nat)
    (hgx : ∀ a n c, v = .slice (some a) n c → gx ≠ a.block) (p : DE × Value) (hp : OneAt w gx p) :
    Calls Try.prog 39 #[v, .int .i64 i, .slice (some ⟨gx, 0, none⟩) 1 1] w (InsPost base ps i p w) := by
  by_cases he : i = ps.length
  · subst he
    exact insert_end w base v ps h hb hmany gx p hp
  · obtain ⟨g, cap, rfl, hin⟩ := h.inRow (by rintro rfl; rw [List.length_nil] at hi he; omega)
    have hfit := hin.fit
    obtain ⟨r, hr⟩ : ∃ r, ps.length = i + 1 + r := ⟨ps.length - (i + 1), by omega⟩
    by_cases hc : cap = ps.length
    · subst hc
      rw [hr] at hin ⊢
      exact insert_grow w base g i r ps hin hb hmany gx p hp
    · obtain ⟨x, hx⟩ : ∃ x, cap = i + 1 + r + 1 + x := ⟨cap - (i + 1 + r + 1), by omega⟩
      subst hx
      have := hgx _ _ _ rfl
      rw [hr] at hin ⊢
      exact insert_room w base g i r x ps hin hb hmany gx this p hp
end Go.Proofs.Ytcgapfmdpchemaa
