/- Laws for the walk on pages: arrays of 256 bytes as values, in variables and on the disk's row. No function is walked here. -/
import Derived.Test.YtcgapfmdpchemaaBase
namespace Go.Proofs.Ytcgapfmdpchemaa
open Go.RowKit

/-- the bytes of an array, as a value -/
def pg (l : List UInt8) : Value := .agg (bvs l).toArray
/-- some bytes laid over others, from a place on -/
def spl (L : List UInt8) (off : Nat) (cs : List UInt8) : List UInt8 := L.take off ++ cs ++ L.drop (off + cs.length)
theorem spl_length (L : List UInt8) (off : Nat) (cs : List UInt8) (h : off + cs.length ≤ L.length) : (spl L off cs).length = L.length := by simp [spl]; omega
def zp : List UInt8 := List.replicate 256 0
def z8 : List UInt8 := [0, 0, 0, 0, 0, 0, 0, 0]
theorem zero139_eq : ∀ (w : World), (zeroValue 139).run Try.prog w = .ok (pg z8) w := fun _ => by kernel_rfl
theorem zp_length : zp.length = 256 := List.length_replicate
theorem oneCell_bvs (l : List UInt8) : ∀ u ∈ bvs l, u.oneCell' = true := by
  intro u hu
  obtain ⟨b, _, rfl⟩ := List.mem_map.1 hu
  rfl
theorem size81 : (Try.prog.info? 81).map (·.size) = some 256 := by kernel_rfl
theorem size139 : (Try.prog.info? 139).map (·.size) = some 8 := by kernel_rfl
/-- the world with one row turned, as a relation -/
structure Only (g : Nat) (w w' : World) : Prop where
  os : w'.os = w.os
  tape : w'.tape = w.tape
  output : w'.output = w.output
  size : w'.heap.size = w.heap.size
  block : ∀ k, k ≠ g → w'.heap[k]? = w.heap[k]?
theorem Only.setRow (w : World) (g : Nat) (cs : Array Value) : Only g w (w.setRow g cs) := ⟨rfl, rfl, rfl, by simp, fun k hk => setRow_other w g k cs hk⟩
theorem Only.refl (g : Nat) (w : World) : Only g w w := ⟨rfl, rfl, rfl, rfl, fun _ _ => rfl⟩
theorem Only.trans {g : Nat} {a b c : World} (h : Only g a b) (k : Only g b c) : Only g a c := ⟨k.os.trans h.os, k.tape.trans h.tape, k.output.trans h.output, k.size.trans h.size, fun i hi => (k.block i hi).trans (h.block i hi)⟩
theorem Only.below {g B : Nat} {w w' : World} (h : Only g w w') (hB : B ≤ g) : Below B w w' := ⟨h.os, h.tape, h.output, by rw [h.size]; exact Nat.le_refl _, fun k hk => h.block k (by omega)⟩
theorem Only.cell {g : Nat} {w w' : World} (h : Only g w w') {a : Addr} (ha : a.block ≠ g) : w'.cell? a = w.cell? a := World.cell?_of_block (h.block _ ha)
theorem agg81 (w : World) : (isAgg 81).run Try.prog w = .ok true w := by
  unfold isAgg
  rw [Sem.run_bind, run_underlying Try.underlying81 w]
  rfl
theorem agg139 (w : World) : (isAgg 139).run Try.prog w = .ok true w := by
  unfold isAgg
  rw [Sem.run_bind, run_underlying Try.underlying139 w]
  rfl
theorem run_size {ty n : Nat} (h : (Try.prog.info? ty).map (·.size) = some n) (w : World) : (sizeOf ty).run Try.prog w = .ok n w := by
  cases hq : Try.prog.info? ty with
  | none => simp [hq] at h
  | some i => simp [sizeOf, typeInfo, hq] at *; exact h
theorem run_loadAgg {ty n : Nat} (ha : ∀ w, (isAgg ty).run Try.prog w = .ok true w) (hsz : (Try.prog.info? ty).map (·.size) = some n) (w : World) (g off : Nat) (cs : List Value) (hl : cs.length = n)
    (hc : ∀ j v, cs[j]? = some v → w.cell? ⟨g, off + j, none⟩ = some v) : (loadVar ty ⟨g, off, none⟩).run Try.prog w = .ok (.agg cs.toArray) w := by
  have h := run_loadCells_list (P := Try.prog) w ⟨g, off, none⟩ cs (fun j v hv => by
    have hadd : (⟨g, off, none⟩ : Addr).add j = ⟨g, off + j, none⟩ := by unfold Addr.add; split <;> simp_all
    rw [hadd]; exact hc j v hv)
  subst hl
  simp [loadVar, Sem.run_bind, ha w, run_size hsz w, h]
section
variable {ops : Array Oper} {rest : List Oper} {o : Oper} {a : Act} {w : World} {Q : Exit → Act → World → Prop}
/-- an array loaded by value -/
theorem ld_agg {ty n : Nat} (ha : ∀ w, (isAgg ty).run Try.prog w = .ok true w) (hsz : (Try.prog.info? ty).map (·.size) = some n) (hgd : o.guard = none) (x : Operand) (ho : o.op = .load ty x)
    {g off : Nat} (hx : a.eval x = .pointer (some ⟨g, off, none⟩)) (cs : List Value) (hl : cs.length = n) (hc : ∀ j v, cs[j]? = some v → w.cell? ⟨g, off + j, none⟩ = some v)
    (h : wpList Try.prog ops Q rest (a.put o.dst (.agg cs.toArray)) w) : wpList Try.prog ops Q (o :: rest) a w :=
  wpList_plain hgd fun K hK => by
    unfold Oper.wp execOp
    simp only [ho, hx, Instr.loadAt, Instr.sureAddr, Sem.run_bind, Sem.run_pure, Result.andThen_ok, run_loadAgg ha hsz w g off cs hl hc]
    exact hK _ _ h
/-- a page loaded by value, from its place on a row of bytes -/
theorem ld81 (hgd : o.guard = none) (x : Operand) (ho : o.op = .load 81 x) {g off : Nat} (hx : a.eval x = .pointer (some ⟨g, off, none⟩))
    {L : List UInt8} {t : TypeId} {fr : Nat × Nat} (hg : w.heap[g]? = some (.cells (bvs L).toArray t fr)) (hle : off + 256 ≤ L.length)
    (h : wpList Try.prog ops Q rest (a.put o.dst (pg ((L.drop off).take 256))) w) : wpList Try.prog ops Q (o :: rest) a w := by
  refine ld_agg agg81 size81 hgd x ho hx (bvs ((L.drop off).take 256)) (by simp [bvs]; omega) (fun j v hv => ?_) h
  rw [cell_of_row w g _ _ t fr hg]
  simp only [bvs, List.map_take, List.map_drop, List.getElem?_take, List.getElem?_drop, List.getElem?_toArray] at hv ⊢
  split at hv
  · exact hv
  · cases hv
/-- a page loaded by value, from a variable -/
theorem ld81v (hgd : o.guard = none) (x : Operand) (ho : o.op = .load 81 x) {g : Nat} (hx : a.eval x = .pointer (some ⟨g, 0, none⟩))
    {L : List UInt8} {t : TypeId} {fr : Nat × Nat} (hg : w.heap[g]? = some (.cells (bvs L).toArray t fr)) (hle : L.length = 256)
    (h : wpList Try.prog ops Q rest (a.put o.dst (pg L)) w) : wpList Try.prog ops Q (o :: rest) a w := by
  refine ld81 hgd x ho hx hg (by omega) ?_
  rwa [List.drop_zero, List.take_of_length_le (by omega)]
theorem zero81_eq : ∀ (w : World), (zeroValue 81).run Try.prog w = .ok (pg zp) w := fun _ => by kernel_rfl
/-- a new variable of a page -/
theorem al81 (hgd : o.guard = none) (ho : o.op = .alloc 81)
    (h : wpList Try.prog ops Q rest (a.put o.dst (.pointer (some ⟨w.heap.size, 0, none⟩))) (w.alloc (.cells (bvs zp).toArray 81))) : wpList Try.prog ops Q (o :: rest) a w :=
  wpList_plain hgd fun K hK => by
    unfold Oper.wp execOp
    simp only [ho, Instr.alloc, Sem.run_bind, Sem.run_pure, Result.andThen_ok, zero81_eq, newVar, newRow, newObj, pg, Value.cells]
    exact hK _ _ h
/-- a new variable of an array of bytes, the world behind it under a name of its own -/
theorem aln {ty : TypeId} {z : List UInt8} (hz : ∀ w, (zeroValue ty).run Try.prog w = .ok (pg z) w) (hgd : o.guard = none) (ho : o.op = .alloc ty)
    (h : ∀ w', w'.heap[w.heap.size]? = some (.cells (bvs z).toArray ty (0, 0)) → w.heap.size + 1 ≤ w'.heap.size → Below w.heap.size w w' → wpList Try.prog ops Q rest (a.put o.dst (.pointer (some ⟨w.heap.size, 0, none⟩))) w') : wpList Try.prog ops Q (o :: rest) a w :=
  wpList_plain hgd fun K hK => by
    unfold Oper.wp execOp
    simp only [ho, Instr.alloc, Sem.run_bind, Sem.run_pure, Result.andThen_ok, hz, newVar, newRow, newObj, pg, Value.cells]
    exact hK _ _ (h (w.alloc (.cells (bvs z).toArray ty)) (heap_alloc_new w _) (by simp) ((Below.refl _ w).alloc (Nat.le_refl _) _))
theorem al81n (hgd : o.guard = none) (ho : o.op = .alloc 81)
    (h : ∀ w', w'.heap[w.heap.size]? = some (.cells (bvs zp).toArray 81 (0, 0)) → w.heap.size + 1 ≤ w'.heap.size → Below w.heap.size w w' → wpList Try.prog ops Q rest (a.put o.dst (.pointer (some ⟨w.heap.size, 0, none⟩))) w') : wpList Try.prog ops Q (o :: rest) a w :=
  aln zero81_eq hgd ho h
/-- a page boxed -/
theorem bx81 (hgd : o.guard = none) (x : Operand) (ho : o.op = .box 81 x) {L : List UInt8} (hx : a.eval x = pg L)
    (h : wpList Try.prog ops Q rest (a.put o.dst (.pointer (some ⟨w.heap.size, 0, none⟩))) (w.alloc (.cells (bvs L).toArray 81))) : wpList Try.prog ops Q (o :: rest) a w :=
  wpList_plain hgd fun K hK => by
    unfold Oper.wp execOp
    simp only [ho, hx, Instr.box, Sem.run_bind, Sem.run_pure, newVar, newRow, newObj, pg, Value.cells]
    exact hK _ _ h
/-- an array of bytes stored into a variable -/
theorem stv {ty n : Nat} (hsz : (Try.prog.info? ty).map (·.size) = some n) (hgd : o.guard = none) (x y : Operand) (ho : o.op = .store ty x y) {g : Nat} (hx : a.eval x = .pointer (some ⟨g, 0, none⟩))
    {L : List UInt8} (hy : a.eval y = pg L) (hL : L.length = n) {old : Array Value} {t : TypeId} (hg : w.heap[g]? = some (.cells old t (0, 0))) (hold : old.size = n)
    (h : ∀ w', w'.heap[g]? = some (.cells (bvs L).toArray t (0, 0)) → Only g w w' → wpList Try.prog ops Q rest (a.put o.dst undef) w') : wpList Try.prog ops Q (o :: rest) a w :=
  wpList_plain hgd fun K hK => by
    unfold Oper.wp execOp
    subst hL
    have hs := run_storeCells_at Try.prog g 0 t (bvs L) 0 old w hg (by simp [bvs, hold]) (oneCell_bvs L)
    simp only [ho, hx, hy, Instr.storeAt, Instr.sureAddr, Sem.run_bind, Sem.run_pure, Result.andThen_ok, storeVar, pg, Value.cells, run_size hsz]
    simp [bvs_length] at hs ⊢
    simp only [hs, Result.andThen_ok]
    have hd : old.toList.drop L.length = [] := List.drop_of_length_le (by simp [hold])
    rw [hd]
    simp only [List.append_nil]
    exact hK _ _ (h _ (setRow_heap w g old _ t _ hg) (Only.setRow w g _))
/-- a page stored into a variable -/
theorem st81 (hgd : o.guard = none) (x y : Operand) (ho : o.op = .store 81 x y) {g : Nat} (hx : a.eval x = .pointer (some ⟨g, 0, none⟩))
    {L : List UInt8} (hy : a.eval y = pg L) (hL : L.length = 256) {old : Array Value} {t : TypeId} (hg : w.heap[g]? = some (.cells old t (0, 0))) (hold : old.size = 256)
    (h : ∀ w', w'.heap[g]? = some (.cells (bvs L).toArray t (0, 0)) → Only g w w' → wpList Try.prog ops Q rest (a.put o.dst undef) w') : wpList Try.prog ops Q (o :: rest) a w :=
  stv size81 hgd x y ho hx hy hL hg hold h
/-- an array of bytes loaded from a variable -/
theorem ldv {ty n : Nat} (ha : ∀ w, (isAgg ty).run Try.prog w = .ok true w) (hsz : (Try.prog.info? ty).map (·.size) = some n) (hgd : o.guard = none) (x : Operand) (ho : o.op = .load ty x)
    {g off : Nat} (hx : a.eval x = .pointer (some ⟨g, off, none⟩)) {L : List UInt8} {t : TypeId} {fr : Nat × Nat} (hg : w.heap[g]? = some (.cells (bvs L).toArray t fr)) (hle : off + n ≤ L.length)
    (h : wpList Try.prog ops Q rest (a.put o.dst (pg ((L.drop off).take n))) w) : wpList Try.prog ops Q (o :: rest) a w := by
  refine ld_agg ha hsz hgd x ho hx (bvs ((L.drop off).take n)) (by simp [bvs]; omega) (fun j v hv => ?_) h
  rw [cell_of_row w g _ _ t fr hg]
  simp only [bvs, List.map_take, List.map_drop, List.getElem?_take, List.getElem?_drop, List.getElem?_toArray] at hv ⊢
  split at hv
  · exact hv
  · cases hv
/-- bytes copied into a row of the call's own: the run -/
theorem run_cp_u8 (w : World) (ty : TypeId) {g off dn dc sn : Nat} {L src : List UInt8} {vs : Value} (hrd : Rd w vs sn (bvs src)) (hsn : sn = src.length)
    {t : TypeId} (hg : w.heap[g]? = some (.cells (bvs L).toArray t (0, 0))) (hle : src.length ≤ dn) (hfit : off + src.length ≤ L.length) :
    ∃ w', (Builtin.copy_ #[97, 97] ty #[.slice (some ⟨g, off, none⟩) dn dc, vs]).run Try.prog w = .ok (.int .i64 src.length) w' ∧
      w'.heap[g]? = some (.cells (bvs (spl L off src)).toArray t (0, 0)) ∧ Only g w w' := by
  subst hsn
  obtain ⟨sa, sc, rfl, _, _, hrd⟩ := hrd
  have hsrc : ∀ j, (hj : j < src.length) → ∃ b off, sa = some ⟨b, off, none⟩ ∧ w.cell? ⟨b, off + j, none⟩ = some (bv src[j]) := fun j hj => by
    obtain ⟨b, o, h1, h2⟩ := hrd j (by rw [bvs_length]; exact hj)
    exact ⟨b, o, h1, by rw [h2]; simp [bvs]⟩
  have hsz : (Try.prog.info? 5).map (·.size) = some 1 := by kernel_rfl
  by_cases h0 : src = []
  · subst h0
    refine ⟨w, ?_, by simpa [spl] using hg, Only.refl g w⟩
    have := run_copy_none (P := Try.prog) w 97 97 ty 5 (some ⟨g, off, none⟩) sa dn dc 0 sc Try.underlying97 hsz (by simp)
    simpa [goInt] using this
  · obtain ⟨b, o', rfl, _⟩ := hsrc 0 (List.length_pos_iff.2 h0)
    have hsrc' : ∀ j, (hj : j < src.length) → w.cell? ⟨b, o' + j, none⟩ = some (bv src[j]) := fun j hj => by
      obtain ⟨b2, o2, he, hc⟩ := hsrc j hj
      cases he
      exact hc
    have hrun := run_copy_row (P := Try.prog) w 97 97 ty 5 g off dn dc ⟨b, o', none⟩ src.length sc (bvs L).toArray t (bvs src) Try.underlying97 hsz hg (by rw [bvs_length]; exact (Nat.min_eq_left hle).symm) (fun j v hv => by
      rw [List.getElem?_eq_some_iff] at hv
      obtain ⟨hj, rfl⟩ := hv
      rw [Addr.add_lit]
      rw [hsrc' j (by simpa [bvs] using hj)]
      simp [bvs]) (by simpa [bvs] using hfit) (oneCell_bvs src)
    have e1 : (bvs L).toArray.toList.take off ++ bvs src ++ (bvs L).toArray.toList.drop (off + (bvs src).length) = bvs (spl L off src) := by
      simp [bvs, spl]
    rw [e1, bvs_length] at hrun
    exact ⟨_, hrun, setRow_heap w g _ _ t _ hg, Only.setRow w g _⟩
theorem op_cp_u8 {K : Act → World → Prop} (d s : Operand) (ho : o.op = .call { callee := .builtin .copy, args := #[d, s], argTypes := #[97, 97] })
    {g off dn dc sn : Nat} (hd : a.eval d = .slice (some ⟨g, off, none⟩) dn dc) {L src : List UInt8} {vs : Value} (hs0 : a.eval s = vs) (hrd : Rd w vs sn (bvs src)) (hsn : sn = src.length)
    {t : TypeId} (hg : w.heap[g]? = some (.cells (bvs L).toArray t (0, 0))) (hle : src.length ≤ dn) (hfit : off + src.length ≤ L.length)
    (h : ∀ w', w'.heap[g]? = some (.cells (bvs (spl L off src)).toArray t (0, 0)) → Only g w w' → K (a.put o.dst (.int .i64 src.length)) w') : o.wp Try.prog a w K Q := by
  obtain ⟨w', hr, h1, h2⟩ := run_cp_u8 w o.type (dc := dc) hrd hsn hg hle hfit
  unfold Oper.wp execOp
  simp only [ho, resolve, invoke, builtin, Sem.run_bind, Sem.run_pure, Result.andThen_ok, List.map_toArray, List.map_cons, List.map_nil, hs0, hd, hr]
  exact h w' h1 h2
/-- bytes copied into a row of the call's own -/
theorem cp_u8 (hgd : o.guard = none) (d s : Operand) (ho : o.op = .call { callee := .builtin .copy, args := #[d, s], argTypes := #[97, 97] })
    {g off dn dc sn : Nat} (hd : a.eval d = .slice (some ⟨g, off, none⟩) dn dc) {L src : List UInt8} {vs : Value} (hs0 : a.eval s = vs) (hrd : Rd w vs sn (bvs src)) (hsn : sn = src.length)
    {t : TypeId} (hg : w.heap[g]? = some (.cells (bvs L).toArray t (0, 0))) (hle : src.length ≤ dn) (hfit : off + src.length ≤ L.length)
    (h : ∀ w', w'.heap[g]? = some (.cells (bvs (spl L off src)).toArray t (0, 0)) → Only g w w' → wpList Try.prog ops Q rest (a.put o.dst (.int .i64 src.length)) w') :
    wpList Try.prog ops Q (o :: rest) a w :=
  wpList_plain hgd fun _ hK => op_cp_u8 d s ho hd hs0 hrd hsn hg hle hfit fun w' h1 h2 => hK _ _ (h w' h1 h2)
/-- a law on an operation as a step of a region that draws its order -/
theorem step_of {K : Act → World → Prop} {E : Prop} (hgd : o.guard = none) (h : o.wp Try.prog a w K Q) : if Region.wanted o (yielded ops a.tmps) = true then o.wp Try.prog a w K Q else E := by
  rw [if_pos (by simp [Region.wanted, hgd])]
  exact h
end
end Go.Proofs.Ytcgapfmdpchemaa
