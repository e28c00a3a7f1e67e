/- The words of the proofs about the store: bytes and numbers as values, what a slice reads as. No function is walked here. -/
import Derived.Test.YtcgapfmdpchemaaRows
import Derived.WalkKit
import Derived.WalkSpells
import Derived.WalkLawsBesides
import Derived.Maps.AppendAt
import Derived.Lib.Hide
import Derived.Laws.CopyOwn
import Derived.Laws.AppendOwnNone
import Derived.Lib.AppendStr
import Derived.Lib.SliceRun
namespace Go.Proofs.Ytcgapfmdpchemaa
open Go.RowKit

def bv (b : UInt8) : Value := .int .u8 (b.toNat : Int)
def bvs (l : List UInt8) : List Value := l.map bv
def iv (n : Nat) : Value := .int .i64 (n : Int)
def ivs (l : List Nat) : List Value := l.map iv
/-- so many bytes of a number, the low ones first -/
def le : Nat → Nat → List UInt8
  | 0, _ => []
  | k + 1, n => UInt8.ofNat n :: le k (n / 256)
theorem le_length (k n : Nat) : (le k n).length = k := by
  induction k generalizing n with
  | zero => rfl
  | succ k ih => simp [le, ih]
theorem le_snoc (k n : Nat) : le (k + 1) n = le k n ++ [UInt8.ofNat (n / 256 ^ k)] := by
  induction k generalizing n with
  | zero => simp [le]
  | succ k ih =>
    rw [le, ih, le]
    simp [Nat.pow_succ, Nat.div_div_eq_div_mul, Nat.mul_comm]
/-- the bytes of some numbers -/
def les (k : Nat) (l : List Nat) : List UInt8 := l.flatMap (le k)
theorem les_length (k : Nat) (l : List Nat) : (les k l).length = k * l.length := by
  induction l with
  | nil => simp [les]
  | cons a l ih => simp only [les, List.flatMap_cons, List.length_append, le_length] at *; rw [ih]; simp [Nat.mul_add, Nat.add_comm]
theorem les_nil (k : Nat) : les k [] = [] := rfl
theorem les_append (k : Nat) (a b : List Nat) : les k (a ++ b) = les k a ++ les k b := by simp [les]
theorem les_take_succ (k : Nat) (l : List Nat) (i : Nat) (h : i < l.length) : les k (l.take (i + 1)) = les k (l.take i) ++ le k l[i] := by
  rw [List.take_succ_eq_append_getElem h, les_append]; simp [les]
theorem bvs_append (a b : List UInt8) : bvs (a ++ b) = bvs a ++ bvs b := by simp [bvs]
theorem bvs_length (a : List UInt8) : (bvs a).length = a.length := by simp [bvs]
theorem ivs_length (a : List Nat) : (ivs a).length = a.length := by simp [ivs]
theorem info5 : (Try.prog.info? 5).map (fun i => (i.zero, i.size, i.bytes)) = some (some (.int .u8 0), 1, 1) := by kernel_rfl
theorem info3 : (Try.prog.info? 3).map (fun i => (i.zero, i.size, i.bytes)) = some (some (.int .i64 0), 1, 8) := by kernel_rfl
theorem info9 : (Try.prog.info? 9).map (fun i => (i.zero, i.size, i.bytes)) = some (some (.string ByteArray.empty), 1, 16) := by kernel_rfl
theorem info4 : (Try.prog.info? 4).map (fun i => (i.zero, i.size, i.bytes)) = some (some (.bool false), 1, 1) := by kernel_rfl
theorem below_of_grown {w w' : World} {base : Nat} {e : TypeId} {size : Nat} {v : Value} {n : Nat} {xs : List Value} (hown : w.ownsRow base e size v n xs) (hg : w.grownBy w' v.ownBlock) (hb : base ≤ w.heap.size) : Below base w w' :=
  (Below.refl base w).grown hg hb (fun k hk => (hown.lt k hk).1)
/-- append of some bytes to an owned row of bytes -/
theorem app_u8 {ops : Array Oper} {rest : List Oper} {o : Oper} {a : Act} {w : World} {Q : Exit → Act → World → Prop} (hgd : o.guard = none) (s x : Operand)
    (ho : o.op = .call { callee := .builtin .append, args := #[s, x], argTypes := #[97, 97] })
    {base : Nat} {v : Value} {n : Nat} {xs : List Value} (hs : a.eval s = v) (hown : w.ownsRow base 5 1 v n xs)
    {ad : Addr} {m c : Nat} {news : List Value} (hx : a.eval x = .slice (some ad) m c) (hl : news.length = m) (hnews : ∀ j u, news[j]? = some u → w.cell? (ad.add j) = some u) (h1 : ∀ u ∈ news, u.oneCell' = true)
    (hn : n + m ≤ 1000000000) (hbase : base ≤ w.heap.size)
    (h : ∀ v' w', w'.ownsRow base 5 1 v' (n + m) (xs ++ news) → w.grownBy w' v.ownBlock → Below base w w' → wpList Try.prog ops Q rest (a.put o.dst v') w') : wpList Try.prog ops Q (o :: rest) a w := by
  obtain ⟨i0, hi, hz0, hz1, hz2⟩ := info_parts info5
  refine wpList_append_own w hgd s x 97 ho base 5 i0 (.int .u8 0) 1 1 Try.underlying97 hi hz0 hz1 hz2 rfl (by decide) v n xs hs hown ad m c news hx (by simpa using hl) hnews h1 (by unfold maxLen; omega) (by omega) hbase fun v' w' h2 h3 _ => h v' w' h2 h3 (below_of_grown hown h3 hbase)
/-- append of one byte that has just been laid -/
theorem app_u8_one {ops : Array Oper} {rest : List Oper} {o : Oper} {a : Act} {w : World} {Q : Exit → Act → World → Prop} (hgd : o.guard = none) (s x : Operand)
    (ho : o.op = .call { callee := .builtin .append, args := #[s, x], argTypes := #[97, 97] }) {u : Value}
    {base : Nat} {v : Value} {n : Nat} {xs : List Value} (hs : a.eval s = v) (hown : w.ownsRow base 5 1 v n xs)
    (hx : a.eval x = .slice (some ⟨w.heap.size, 0, none⟩) 1 1) (h1 : u.oneCell' = true)
    (hn : n + 1 ≤ 1000000000) (hbase : base ≤ w.heap.size)
    (h : ∀ v' w', w'.ownsRow base 5 1 v' (n + 1) (xs ++ [u]) → Below base w w' → wpList Try.prog ops Q rest (a.put o.dst v') w') : wpList Try.prog ops Q (o :: rest) a (w.alloc (.cells #[u] 5)) := by
  refine app_u8 hgd s x ho hs (hown.alloc _) hx (news := [u]) rfl (cell_one_new _ _ _) (by simpa using h1) hn (by simp; omega) fun v' w' h2 _ h3 => h v' w' h2 ((((Below.refl _ w).alloc hbase _)).trans h3)
theorem bv_mod (y : Nat) : bv (UInt8.ofNat y) = .int .u8 ((y : Int) % 256) := by
  simp [bv, UInt8.toNat_ofNat']
theorem int_div (y d : Nat) : Value.int .i64 ((y : Int) / (d : Int)) = .int .i64 ((y / d : Nat) : Int) := by simp
/-- what a slice reads as: n elements, these cells -/
def Rd (w : World) (v : Value) (n : Nat) (xs : List Value) : Prop :=
  ∃ a c, v = .slice a n c ∧ n ≤ c ∧ c ≤ maxLen ∧ ∀ j, (hj : j < xs.length) → ∃ b off, a = some ⟨b, off, none⟩ ∧ w.cell? ⟨b, off + j, none⟩ = some xs[j]
theorem Rd.below {w w' : World} {v : Value} {n : Nat} {xs : List Value} (h : Rd w v n xs) {B : Nat} (hb : Below B w w') (hB : w.heap.size ≤ B) : Rd w' v n xs := by
  obtain ⟨a, c, rfl, h1, h2, h⟩ := h
  refine ⟨a, c, rfl, h1, h2, fun j hj => ?_⟩
  obtain ⟨b, off, ha, hc⟩ := h j hj
  exact ⟨b, off, ha, (hb.cell (p := ⟨b, off + j, none⟩) (Nat.lt_of_lt_of_le (block_lt_of_cell hc) hB)).trans hc⟩
theorem Rd_new (w : World) (xs : List Value) (t : TypeId) (g n : Nat) (hg : g = w.heap.size) (hn : n ≤ maxLen := by decide) : Rd (w.alloc (.cells xs.toArray t)) (.slice (some ⟨g, 0, none⟩) n n) n xs := by
  subst hg
  refine ⟨_, _, rfl, Nat.le_refl _, hn, fun j hj => ⟨_, _, rfl, ?_⟩⟩
  rw [Nat.zero_add, cell_of_row _ _ _ _ _ _ (heap_alloc_new w _)]
  simp [hj]
theorem Rd_own {w : World} {base e : Nat} {v : Value} {n : Nat} {xs : List Value} (h : w.ownsRow base e 1 v n xs) : Rd w v n xs := by
  obtain ⟨hl, h⟩ := h
  rcases h with ⟨rfl, rfl⟩ | ⟨g, cap, cur, rfl, _, hg, hnc, hcm, hcs, ht⟩
  · exact ⟨none, 0, rfl, Nat.le_refl _, by decide, fun j hj => by omega⟩
  · refine ⟨_, _, rfl, hnc, hcm, fun j hj => ⟨_, _, rfl, ?_⟩⟩
    rw [Nat.zero_add, cell_of_row _ _ _ _ _ _ hg]
    subst ht
    simp only [List.length_take, Array.length_toList] at hj
    simp [Array.getElem?_eq_getElem (show j < cur.size by omega)]
theorem Rd.front {w : World} {a : Option Addr} {n c : Nat} {xs : List Value} (h : Rd w (.slice a n c) n xs) (m c' : Nat) (hm : m ≤ c') (hc : c' ≤ maxLen) : Rd w (.slice a m c') m (xs.take m) := by
  obtain ⟨a', c'', he, _, _, h⟩ := h
  cases he
  refine ⟨a, c', rfl, hm, hc, fun j hj => ?_⟩
  simp only [List.length_take] at hj
  obtain ⟨b, off, h1, h2⟩ := h j (by omega)
  exact ⟨b, off, h1, by rw [h2, List.getElem_take]⟩
theorem Rd.drew {w : World} {v : Value} {n : Nat} {xs : List Value} (h : Rd w v n xs) : Rd w.drew v n xs := h
theorem own_below {w w' : World} {B base e size n : Nat} {v : Value} {xs : List Value} (h : w.ownsRow base e size v n xs) (hb : Below B w w') (hB : w.heap.size ≤ B) : w'.ownsRow base e size v n xs := by
  have hlt := h.lt
  refine ⟨h.1, ?_⟩
  rcases h.2 with h2 | ⟨g, cap, cur, rfl, h3, h4, r⟩
  · exact .inl h2
  · exact .inr ⟨g, cap, cur, rfl, h3, (hb.block g (Nat.lt_of_lt_of_le (hlt g rfl).2 hB)).trans h4, r⟩
theorem own_base {w : World} {B base e size n : Nat} {v : Value} {xs : List Value} (h : w.ownsRow base e size v n xs) (hB : B ≤ base) : w.ownsRow B e size v n xs := by
  refine ⟨h.1, ?_⟩
  rcases h.2 with h2 | ⟨g, cap, cur, rfl, h3, r⟩
  · exact .inl h2
  · exact .inr ⟨g, cap, cur, rfl, by omega, r⟩
/-- the number of some bytes, the low ones first -/
def num : List UInt8 → Nat
  | [] => 0
  | b :: l => b.toNat + 256 * num l
theorem num_lt (l : List UInt8) : num l < 256 ^ l.length := by
  induction l with
  | nil => simp [num]
  | cons b l ih =>
    have := b.toNat_lt
    simp only [num, List.length_cons, Nat.pow_succ]
    omega
theorem num_le (k n : Nat) : num (le k n) = n % 256 ^ k := by
  induction k generalizing n with
  | zero => simp [num, le, Nat.mod_one]
  | succ k ih =>
    rw [le, num, ih, Nat.pow_succ', Nat.mod_mul]
    simp [UInt8.toNat_ofNat']
theorem wraps_i64 (n : Int) (h₀ : 0 ≤ n) (h₁ : n < 2 ^ 40) : IntKind.i64.wrap n = n := by rw [IntKind.wrap_i64]; omega
theorem or_byte (x y : Nat) (hx : x < 16777216) (hy : y < 256) : bits .or .i64 ((x : Int) * 256) (y : Int) = ((y + 256 * x : Nat) : Int) := by
  rw [bits_join .i64 40 (by decide) wraps_i64 8 _ _ (by omega) (by omega) (by omega) (by omega) (by omega) (by omega)]
  omega
theorem num_cons (b : UInt8) (l : List UInt8) : num (b :: l) = b.toNat + 256 * num l := rfl
/-- the facts on an element type that the law on append asks -/
structure El (t e : TypeId) (z : Value) (size bytes : Nat) : Prop where
  under : Try.prog.underlying t = some (.slice e)
  info : (Try.prog.info? e).map (fun i => (i.zero, i.size, i.bytes)) = some (some z, size, bytes)
  cells : z.cells.size = size
  pos : 0 < size
  small : bytes ≤ 1000
theorem el97 : El 97 5 (.int .u8 0) 1 1 := ⟨Try.underlying97, info5, rfl, by decide, by decide⟩
theorem el51 : El 51 3 (.int .i64 0) 1 8 := ⟨Try.underlying51, info3, rfl, by decide, by decide⟩
theorem el75 : El 75 9 (.string ByteArray.empty) 1 16 := ⟨Try.underlying75, info9, rfl, by decide, by decide⟩
section
variable {ops : Array Oper} {rest : List Oper} {o : Oper} {a : Act} {w : World} {Q : Exit → Act → World → Prop}
/-- append to an owned row of what a slice reads as -/
theorem app_rd {t e size bytes : Nat} {z : Value} (el : El t e z size bytes) (hgd : o.guard = none) (s x : Operand)
    (ho : o.op = .call { callee := .builtin .append, args := #[s, x], argTypes := #[t, t] })
    {base : Nat} {v : Value} {n : Nat} {xs : List Value} (hs : a.eval s = v) (hown : w.ownsRow base e size v n xs)
    {vx : Value} {m : Nat} {news : List Value} (hx : a.eval x = vx) (hrd : Rd w vx m news) (hl : news.length = m * size) (h1 : ∀ u ∈ news, u.oneCell' = true)
    (hn : n + m ≤ 1000000000) (hbase : base ≤ w.heap.size)
    (h : ∀ v' w', w'.ownsRow base e size v' (n + m) (xs ++ news) → w.grownBy w' v.ownBlock → Below base w w' → wpList Try.prog ops Q rest (a.put o.dst v') w') : wpList Try.prog ops Q (o :: rest) a w := by
  obtain ⟨i0, hi, hz0, hz1, hz2⟩ := info_parts el.info
  obtain ⟨ad, c, rfl, _, _, hc⟩ := hrd
  by_cases h0 : news = []
  · subst h0
    have hm : m = 0 := by
      have h := Nat.mul_eq_zero.1 (show m * size = 0 by simpa using hl.symm)
      have := el.pos
      omega
    subst hm
    refine wpList_plain hgd fun K hK => ?_
    have hrun : (Builtin.append_ #[t, t] o.type #[v, .slice ad 0 c]).run Try.prog w = .ok v w := by
      rcases hown.2 with ⟨rfl, _⟩ | ⟨g, cap, cur, rfl, _, _, hnc, _⟩
      · cases ad <;> simp [Builtin.append_, run_underlying el.under, sizeOf, typeInfo, hi, Builtin.lenOf, Builtin.firstCells, loadCells, loadCellsFrom]
      · cases ad <;> simp [Builtin.append_, run_underlying el.under, sizeOf, typeInfo, hi, Builtin.lenOf, Builtin.firstCells, loadCells, loadCellsFrom, hnc, storeCells]
    unfold Oper.wp execOp
    simp only [ho, resolve, invoke, builtin, Sem.run_bind, Sem.run_pure, Result.andThen_ok, List.map_toArray, List.map_cons, List.map_nil, hs, hx, hrun]
    refine hK _ _ (h v w (by simpa using hown) ⟨rfl, rfl, rfl, Nat.le_refl _, fun _ _ _ => rfl⟩ (Below.refl _ _))
  · obtain ⟨b, off, rfl, _⟩ := hc 0 (List.length_pos_iff.2 h0)
    have hb : (n + m) * bytes ≤ 1000000000 * 1000 := Nat.mul_le_mul hn el.small
    refine wpList_append_own w hgd s x t ho base e i0 z size bytes el.under hi hz0 hz1 hz2 el.cells el.pos v n xs hs hown ⟨b, off, none⟩ m c news hx hl ?_ h1 (by unfold maxLen; omega) (by omega) hbase fun v' w' h2 h3 _ => h v' w' h2 h3 (below_of_grown hown h3 hbase)
    intro j u hu
    rw [List.getElem?_eq_some_iff] at hu
    obtain ⟨hj, rfl⟩ := hu
    obtain ⟨b2, o2, he, hcc⟩ := hc j hj
    cases he
    rw [Addr.add_lit]
    exact hcc
/-- append of one cell that has just been laid -/
theorem app_one {t e bytes : Nat} {z : Value} (el : El t e z 1 bytes) (hgd : o.guard = none) (s x : Operand)
    (ho : o.op = .call { callee := .builtin .append, args := #[s, x], argTypes := #[t, t] }) {u : Value}
    {base : Nat} {v : Value} {n : Nat} {xs : List Value} (hs : a.eval s = v) (hown : w.ownsRow base e 1 v n xs) {g : Nat} (hgw : g = w.heap.size)
    (hx : a.eval x = .slice (some ⟨g, 0, none⟩) 1 1) (h1 : u.oneCell' = true)
    (hn : n + 1 ≤ 1000000000) (hbase : base ≤ w.heap.size)
    (h : ∀ v' w', w'.ownsRow base e 1 v' (n + 1) (xs ++ [u]) → w.grownBy w' v.ownBlock → Below base w w' → wpList Try.prog ops Q rest (a.put o.dst v') w') : wpList Try.prog ops Q (o :: rest) a (w.alloc (.cells #[u] e)) := by
  subst hgw
  refine app_rd el hgd s x ho hs (hown.alloc _) hx (Rd_new w [u] e _ 1 rfl) rfl (by simpa using h1) hn (by simp; omega) fun v' w' h2 hg h3 => h v' w' h2 ?_ ((((Below.refl _ w).alloc hbase _)).trans h3)
  exact ⟨hg.os, hg.tape, hg.output, Nat.le_trans (by simp) hg.size, fun k hk hr => (hg.block k (by simp; omega) hr).trans (heap_alloc_old w _ hk)⟩
/-- append of a string's bytes -/
theorem app_str (hgd : o.guard = none) (s x : Operand)
    (ho : o.op = .call { callee := .builtin .append, args := #[s, x], argTypes := #[97, 9] })
    {base : Nat} {v : Value} {n : Nat} {xs : List Value} (hs : a.eval s = v) (hown : w.ownsRow base 5 1 v n xs)
    {st : ByteArray} (hx : a.eval x = .string st) (hn : n + st.size ≤ 1000000000) (hbase : base ≤ w.heap.size)
    (h : ∀ v' w', w'.ownsRow base 5 1 v' (n + st.size) (xs ++ bvs st.data.toList) → w.grownBy w' v.ownBlock → Below base w w' → wpList Try.prog ops Q rest (a.put o.dst v') w') : wpList Try.prog ops Q (o :: rest) a w := by
  obtain ⟨i0, hi, hz0, hz1, hz2⟩ := info_parts info5
  refine Lib.wpList_append_own_string w hgd s x 97 9 ho base 5 i0 Try.underlying97 Try.underlying9 hi hz0 hz1 hz2 v n xs hs hown st hx (by unfold maxLen; omega) (by omega) hbase fun v' w' h2 h3 _ => h v' w' ?_ h3 (below_of_grown hown h3 hbase)
  exact h2
end
end Go.Proofs.Ytcgapfmdpchemaa
/- Laws for the walk on pages: arrays of 256 bytes as values, in variables and on the disk's row. No function is walked here. -/
namespace Go.Proofs.Ytcgapfmdpchemaa
open Go.RowKit

/-- the bytes of an array, as a value -/
def pg (l : List UInt8) : Value := .agg (bvs l).toArray
/-- some bytes laid over others, from a place on -/
def spl (L : List UInt8) (off : Nat) (cs : List UInt8) : List UInt8 := L.take off ++ cs ++ L.drop (off + cs.length)
theorem spl_length (L : List UInt8) (off : Nat) (cs : List UInt8) (h : off + cs.length ≤ L.length) : (spl L off cs).length = L.length := by simp [spl]; omega
def zp : List UInt8 := List.replicate 256 0
def z8 : List UInt8 := [0, 0, 0, 0, 0, 0, 0, 0]
theorem zero139_eq : ∀ (w : World), (zeroValue 139).run Try.prog w = .ok (pg z8) w := fun _ => by kernel_rfl
theorem zp_length : zp.length = 256 := List.length_replicate
theorem oneCell_bvs (l : List UInt8) : ∀ u ∈ bvs l, u.oneCell' = true := by
  intro u hu
  obtain ⟨b, _, rfl⟩ := List.mem_map.1 hu
  rfl
theorem size81 : (Try.prog.info? 81).map (·.size) = some 256 := by kernel_rfl
theorem size139 : (Try.prog.info? 139).map (·.size) = some 8 := by kernel_rfl
/-- the world with one row turned, as a relation -/
structure Only (g : Nat) (w w' : World) : Prop where
  os : w'.os = w.os
  tape : w'.tape = w.tape
  output : w'.output = w.output
  size : w'.heap.size = w.heap.size
  block : ∀ k, k ≠ g → w'.heap[k]? = w.heap[k]?
theorem Only.setRow (w : World) (g : Nat) (cs : Array Value) : Only g w (w.setRow g cs) := ⟨rfl, rfl, rfl, by simp, fun k hk => setRow_other w g k cs hk⟩
theorem Only.refl (g : Nat) (w : World) : Only g w w := ⟨rfl, rfl, rfl, rfl, fun _ _ => rfl⟩
theorem Only.trans {g : Nat} {a b c : World} (h : Only g a b) (k : Only g b c) : Only g a c := ⟨k.os.trans h.os, k.tape.trans h.tape, k.output.trans h.output, k.size.trans h.size, fun i hi => (k.block i hi).trans (h.block i hi)⟩
theorem Only.below {g B : Nat} {w w' : World} (h : Only g w w') (hB : B ≤ g) : Below B w w' := ⟨h.os, h.tape, h.output, by rw [h.size]; exact Nat.le_refl _, fun k hk => h.block k (by omega)⟩
theorem Only.cell {g : Nat} {w w' : World} (h : Only g w w') {a : Addr} (ha : a.block ≠ g) : w'.cell? a = w.cell? a := World.cell?_of_block (h.block _ ha)
theorem agg81 (w : World) : (isAgg 81).run Try.prog w = .ok true w := by
  unfold isAgg
  rw [Sem.run_bind, run_underlying Try.underlying81 w]
  rfl
theorem agg139 (w : World) : (isAgg 139).run Try.prog w = .ok true w := by
  unfold isAgg
  rw [Sem.run_bind, run_underlying Try.underlying139 w]
  rfl
theorem run_size {ty n : Nat} (h : (Try.prog.info? ty).map (·.size) = some n) (w : World) : (sizeOf ty).run Try.prog w = .ok n w := by
  cases hq : Try.prog.info? ty with
  | none => simp [hq] at h
  | some i => simp [sizeOf, typeInfo, hq] at *; exact h
theorem run_loadAgg {ty n : Nat} (ha : ∀ w, (isAgg ty).run Try.prog w = .ok true w) (hsz : (Try.prog.info? ty).map (·.size) = some n) (w : World) (g off : Nat) (cs : List Value) (hl : cs.length = n)
    (hc : ∀ j v, cs[j]? = some v → w.cell? ⟨g, off + j, none⟩ = some v) : (loadVar ty ⟨g, off, none⟩).run Try.prog w = .ok (.agg cs.toArray) w := by
  have h := run_loadCells_list (P := Try.prog) w ⟨g, off, none⟩ cs (fun j v hv => by
    have hadd : (⟨g, off, none⟩ : Addr).add j = ⟨g, off + j, none⟩ := by unfold Addr.add; split <;> simp_all
    rw [hadd]; exact hc j v hv)
  subst hl
  simp [loadVar, Sem.run_bind, ha w, run_size hsz w, h]
section
variable {ops : Array Oper} {rest : List Oper} {o : Oper} {a : Act} {w : World} {Q : Exit → Act → World → Prop}
/-- an array loaded by value -/
theorem ld_agg {ty n : Nat} (ha : ∀ w, (isAgg ty).run Try.prog w = .ok true w) (hsz : (Try.prog.info? ty).map (·.size) = some n) (hgd : o.guard = none) (x : Operand) (ho : o.op = .load ty x)
    {g off : Nat} (hx : a.eval x = .pointer (some ⟨g, off, none⟩)) (cs : List Value) (hl : cs.length = n) (hc : ∀ j v, cs[j]? = some v → w.cell? ⟨g, off + j, none⟩ = some v)
    (h : wpList Try.prog ops Q rest (a.put o.dst (.agg cs.toArray)) w) : wpList Try.prog ops Q (o :: rest) a w :=
  wpList_plain hgd fun K hK => by
    unfold Oper.wp execOp
    simp only [ho, hx, Instr.loadAt, Instr.sureAddr, Sem.run_bind, Sem.run_pure, Result.andThen_ok, run_loadAgg ha hsz w g off cs hl hc]
    exact hK _ _ h
/-- a page loaded by value, from its place on a row of bytes -/
theorem ld81 (hgd : o.guard = none) (x : Operand) (ho : o.op = .load 81 x) {g off : Nat} (hx : a.eval x = .pointer (some ⟨g, off, none⟩))
    {L : List UInt8} {t : TypeId} {fr : Nat × Nat} (hg : w.heap[g]? = some (.cells (bvs L).toArray t fr)) (hle : off + 256 ≤ L.length)
    (h : wpList Try.prog ops Q rest (a.put o.dst (pg ((L.drop off).take 256))) w) : wpList Try.prog ops Q (o :: rest) a w := by
  refine ld_agg agg81 size81 hgd x ho hx (bvs ((L.drop off).take 256)) (by simp [bvs]; omega) (fun j v hv => ?_) h
  rw [cell_of_row w g _ _ t fr hg]
  simp only [bvs, List.map_take, List.map_drop, List.getElem?_take, List.getElem?_drop, List.getElem?_toArray] at hv ⊢
  split at hv
  · exact hv
  · cases hv
/-- a page loaded by value, from a variable -/
theorem ld81v (hgd : o.guard = none) (x : Operand) (ho : o.op = .load 81 x) {g : Nat} (hx : a.eval x = .pointer (some ⟨g, 0, none⟩))
    {L : List UInt8} {t : TypeId} {fr : Nat × Nat} (hg : w.heap[g]? = some (.cells (bvs L).toArray t fr)) (hle : L.length = 256)
    (h : wpList Try.prog ops Q rest (a.put o.dst (pg L)) w) : wpList Try.prog ops Q (o :: rest) a w := by
  refine ld81 hgd x ho hx hg (by omega) ?_
  rwa [List.drop_zero, List.take_of_length_le (by omega)]
theorem zero81_eq : ∀ (w : World), (zeroValue 81).run Try.prog w = .ok (pg zp) w := fun _ => by kernel_rfl
/-- a new variable of a page -/
theorem al81 (hgd : o.guard = none) (ho : o.op = .alloc 81)
    (h : wpList Try.prog ops Q rest (a.put o.dst (.pointer (some ⟨w.heap.size, 0, none⟩))) (w.alloc (.cells (bvs zp).toArray 81))) : wpList Try.prog ops Q (o :: rest) a w :=
  wpList_plain hgd fun K hK => by
    unfold Oper.wp execOp
    simp only [ho, Instr.alloc, Sem.run_bind, Sem.run_pure, Result.andThen_ok, zero81_eq, newVar, newRow, newObj, pg, Value.cells]
    exact hK _ _ h
/-- a new variable of an array of bytes, the world behind it under a name of its own -/
theorem aln {ty : TypeId} {z : List UInt8} (hz : ∀ w, (zeroValue ty).run Try.prog w = .ok (pg z) w) (hgd : o.guard = none) (ho : o.op = .alloc ty)
    (h : ∀ w', w'.heap[w.heap.size]? = some (.cells (bvs z).toArray ty (0, 0)) → w.heap.size + 1 ≤ w'.heap.size → Below w.heap.size w w' → wpList Try.prog ops Q rest (a.put o.dst (.pointer (some ⟨w.heap.size, 0, none⟩))) w') : wpList Try.prog ops Q (o :: rest) a w :=
  wpList_plain hgd fun K hK => by
    unfold Oper.wp execOp
    simp only [ho, Instr.alloc, Sem.run_bind, Sem.run_pure, Result.andThen_ok, hz, newVar, newRow, newObj, pg, Value.cells]
    exact hK _ _ (h (w.alloc (.cells (bvs z).toArray ty)) (heap_alloc_new w _) (by simp) ((Below.refl _ w).alloc (Nat.le_refl _) _))
theorem al81n (hgd : o.guard = none) (ho : o.op = .alloc 81)
    (h : ∀ w', w'.heap[w.heap.size]? = some (.cells (bvs zp).toArray 81 (0, 0)) → w.heap.size + 1 ≤ w'.heap.size → Below w.heap.size w w' → wpList Try.prog ops Q rest (a.put o.dst (.pointer (some ⟨w.heap.size, 0, none⟩))) w') : wpList Try.prog ops Q (o :: rest) a w :=
  aln zero81_eq hgd ho h
/-- a page boxed -/
theorem bx81 (hgd : o.guard = none) (x : Operand) (ho : o.op = .box 81 x) {L : List UInt8} (hx : a.eval x = pg L)
    (h : wpList Try.prog ops Q rest (a.put o.dst (.pointer (some ⟨w.heap.size, 0, none⟩))) (w.alloc (.cells (bvs L).toArray 81))) : wpList Try.prog ops Q (o :: rest) a w :=
  wpList_plain hgd fun K hK => by
    unfold Oper.wp execOp
    simp only [ho, hx, Instr.box, Sem.run_bind, Sem.run_pure, newVar, newRow, newObj, pg, Value.cells]
    exact hK _ _ h
/-- an array of bytes stored into a variable -/
theorem stv {ty n : Nat} (hsz : (Try.prog.info? ty).map (·.size) = some n) (hgd : o.guard = none) (x y : Operand) (ho : o.op = .store ty x y) {g : Nat} (hx : a.eval x = .pointer (some ⟨g, 0, none⟩))
    {L : List UInt8} (hy : a.eval y = pg L) (hL : L.length = n) {old : Array Value} {t : TypeId} (hg : w.heap[g]? = some (.cells old t (0, 0))) (hold : old.size = n)
    (h : ∀ w', w'.heap[g]? = some (.cells (bvs L).toArray t (0, 0)) → Only g w w' → wpList Try.prog ops Q rest (a.put o.dst undef) w') : wpList Try.prog ops Q (o :: rest) a w :=
  wpList_plain hgd fun K hK => by
    unfold Oper.wp execOp
    subst hL
    have hs := run_storeCells_at Try.prog g 0 t (bvs L) 0 old w hg (by simp [bvs, hold]) (oneCell_bvs L)
    simp only [ho, hx, hy, Instr.storeAt, Instr.sureAddr, Sem.run_bind, Sem.run_pure, Result.andThen_ok, storeVar, pg, Value.cells, run_size hsz]
    simp [bvs_length] at hs ⊢
    simp only [hs, Result.andThen_ok]
    have hd : old.toList.drop L.length = [] := List.drop_of_length_le (by simp [hold])
    rw [hd]
    simp only [List.append_nil]
    exact hK _ _ (h _ (setRow_heap w g old _ t _ hg) (Only.setRow w g _))
/-- a page stored into a variable -/
theorem st81 (hgd : o.guard = none) (x y : Operand) (ho : o.op = .store 81 x y) {g : Nat} (hx : a.eval x = .pointer (some ⟨g, 0, none⟩))
    {L : List UInt8} (hy : a.eval y = pg L) (hL : L.length = 256) {old : Array Value} {t : TypeId} (hg : w.heap[g]? = some (.cells old t (0, 0))) (hold : old.size = 256)
    (h : ∀ w', w'.heap[g]? = some (.cells (bvs L).toArray t (0, 0)) → Only g w w' → wpList Try.prog ops Q rest (a.put o.dst undef) w') : wpList Try.prog ops Q (o :: rest) a w :=
  stv size81 hgd x y ho hx hy hL hg hold h
/-- an array of bytes loaded from a variable -/
theorem ldv {ty n : Nat} (ha : ∀ w, (isAgg ty).run Try.prog w = .ok true w) (hsz : (Try.prog.info? ty).map (·.size) = some n) (hgd : o.guard = none) (x : Operand) (ho : o.op = .load ty x)
    {g off : Nat} (hx : a.eval x = .pointer (some ⟨g, off, none⟩)) {L : List UInt8} {t : TypeId} {fr : Nat × Nat} (hg : w.heap[g]? = some (.cells (bvs L).toArray t fr)) (hle : off + n ≤ L.length)
    (h : wpList Try.prog ops Q rest (a.put o.dst (pg ((L.drop off).take n))) w) : wpList Try.prog ops Q (o :: rest) a w := by
  refine ld_agg ha hsz hgd x ho hx (bvs ((L.drop off).take n)) (by simp [bvs]; omega) (fun j v hv => ?_) h
  rw [cell_of_row w g _ _ t fr hg]
  simp only [bvs, List.map_take, List.map_drop, List.getElem?_take, List.getElem?_drop, List.getElem?_toArray] at hv ⊢
  split at hv
  · exact hv
  · cases hv
/-- bytes copied into a row of the call's own: the run -/
theorem run_cp_u8 (w : World) (ty : TypeId) {g off dn dc sn : Nat} {L src : List UInt8} {vs : Value} (hrd : Rd w vs sn (bvs src)) (hsn : sn = src.length)
    {t : TypeId} (hg : w.heap[g]? = some (.cells (bvs L).toArray t (0, 0))) (hle : src.length ≤ dn) (hfit : off + src.length ≤ L.length) :
    ∃ w', (Builtin.copy_ #[97, 97] ty #[.slice (some ⟨g, off, none⟩) dn dc, vs]).run Try.prog w = .ok (.int .i64 src.length) w' ∧
      w'.heap[g]? = some (.cells (bvs (spl L off src)).toArray t (0, 0)) ∧ Only g w w' := by
  subst hsn
  obtain ⟨sa, sc, rfl, _, _, hrd⟩ := hrd
  have hsrc : ∀ j, (hj : j < src.length) → ∃ b off, sa = some ⟨b, off, none⟩ ∧ w.cell? ⟨b, off + j, none⟩ = some (bv src[j]) := fun j hj => by
    obtain ⟨b, o, h1, h2⟩ := hrd j (by rw [bvs_length]; exact hj)
    exact ⟨b, o, h1, by rw [h2]; simp [bvs]⟩
  have hsz : (Try.prog.info? 5).map (·.size) = some 1 := by kernel_rfl
  by_cases h0 : src = []
  · subst h0
    refine ⟨w, ?_, by simpa [spl] using hg, Only.refl g w⟩
    have := run_copy_none (P := Try.prog) w 97 97 ty 5 (some ⟨g, off, none⟩) sa dn dc 0 sc Try.underlying97 hsz (by simp)
    simpa [goInt] using this
  · obtain ⟨b, o', rfl, _⟩ := hsrc 0 (List.length_pos_iff.2 h0)
    have hsrc' : ∀ j, (hj : j < src.length) → w.cell? ⟨b, o' + j, none⟩ = some (bv src[j]) := fun j hj => by
      obtain ⟨b2, o2, he, hc⟩ := hsrc j hj
      cases he
      exact hc
    have hrun := run_copy_row (P := Try.prog) w 97 97 ty 5 g off dn dc ⟨b, o', none⟩ src.length sc (bvs L).toArray t (bvs src) Try.underlying97 hsz hg (by rw [bvs_length]; exact (Nat.min_eq_left hle).symm) (fun j v hv => by
      rw [List.getElem?_eq_some_iff] at hv
      obtain ⟨hj, rfl⟩ := hv
      rw [Addr.add_lit]
      rw [hsrc' j (by simpa [bvs] using hj)]
      simp [bvs]) (by simpa [bvs] using hfit) (oneCell_bvs src)
    have e1 : (bvs L).toArray.toList.take off ++ bvs src ++ (bvs L).toArray.toList.drop (off + (bvs src).length) = bvs (spl L off src) := by
      simp [bvs, spl]
    rw [e1, bvs_length] at hrun
    exact ⟨_, hrun, setRow_heap w g _ _ t _ hg, Only.setRow w g _⟩
theorem op_cp_u8 {K : Act → World → Prop} (d s : Operand) (ho : o.op = .call { callee := .builtin .copy, args := #[d, s], argTypes := #[97, 97] })
    {g off dn dc sn : Nat} (hd : a.eval d = .slice (some ⟨g, off, none⟩) dn dc) {L src : List UInt8} {vs : Value} (hs0 : a.eval s = vs) (hrd : Rd w vs sn (bvs src)) (hsn : sn = src.length)
    {t : TypeId} (hg : w.heap[g]? = some (.cells (bvs L).toArray t (0, 0))) (hle : src.length ≤ dn) (hfit : off + src.length ≤ L.length)
    (h : ∀ w', w'.heap[g]? = some (.cells (bvs (spl L off src)).toArray t (0, 0)) → Only g w w' → K (a.put o.dst (.int .i64 src.length)) w') : o.wp Try.prog a w K Q := by
  obtain ⟨w', hr, h1, h2⟩ := run_cp_u8 w o.type (dc := dc) hrd hsn hg hle hfit
  unfold Oper.wp execOp
  simp only [ho, resolve, invoke, builtin, Sem.run_bind, Sem.run_pure, Result.andThen_ok, List.map_toArray, List.map_cons, List.map_nil, hs0, hd, hr]
  exact h w' h1 h2
/-- bytes copied into a row of the call's own -/
theorem cp_u8 (hgd : o.guard = none) (d s : Operand) (ho : o.op = .call { callee := .builtin .copy, args := #[d, s], argTypes := #[97, 97] })
    {g off dn dc sn : Nat} (hd : a.eval d = .slice (some ⟨g, off, none⟩) dn dc) {L src : List UInt8} {vs : Value} (hs0 : a.eval s = vs) (hrd : Rd w vs sn (bvs src)) (hsn : sn = src.length)
    {t : TypeId} (hg : w.heap[g]? = some (.cells (bvs L).toArray t (0, 0))) (hle : src.length ≤ dn) (hfit : off + src.length ≤ L.length)
    (h : ∀ w', w'.heap[g]? = some (.cells (bvs (spl L off src)).toArray t (0, 0)) → Only g w w' → wpList Try.prog ops Q rest (a.put o.dst (.int .i64 src.length)) w') :
    wpList Try.prog ops Q (o :: rest) a w :=
  wpList_plain hgd fun _ hK => op_cp_u8 d s ho hd hs0 hrd hsn hg hle hfit fun w' h1 h2 => hK _ _ (h w' h1 h2)
/-- a law on an operation as a step of a region that draws its order -/
theorem step_of {K : Act → World → Prop} {E : Prop} (hgd : o.guard = none) (h : o.wp Try.prog a w K Q) : if Region.wanted o (yielded ops a.tmps) = true then o.wp Try.prog a w K Q else E := by
  rw [if_pos (by simp [Region.wanted, hgd])]
  exact h
end
end Go.Proofs.Ytcgapfmdpchemaa
