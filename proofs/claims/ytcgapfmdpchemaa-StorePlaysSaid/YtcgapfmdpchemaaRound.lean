/- A region in a round of a range over a function, walked as a region anywhere. No function is walked here. -/
import Derived.Test.YtcgapfmdpchemaaInsert
import Derived.RangeFuncNested
import Derived.RangeFuncBound
import Derived.RangeFuncCalls
import Derived.RangeFuncLeaves
import Derived.RangeFuncBox
import Derived.Shelf.Abstract
import Derived.Shelf.RegionOpen
import Derived.OwnWalkIn
import Derived.TacticsInMore
import Derived.LoopNIn
import Derived.LoopIn
import Derived.OrdersHeld
namespace Go.Proofs.Ytcgapfmdpchemaa
open Go.RowKit
theorem upon_round {n l : Nat} {P : Program} {o : Oper} {a : Act} {K : Act → World → Prop} {Q : Exit → Act → World → Prop} {r : Result Next} (h : o.upon P a K Q r) : o.uponIn (Fence.wide.inRound l) n P a K Q r := by
  cases r with
  | ok nx w' =>
    cases nx with
    | value v => exact h
    | skip => exact h
    | defer d => exact h
    | enter f args => exact ⟨fun h => by simp [Fence.wide] at h, (callsIn_wide.2 h).inRound l⟩
    | row r args =>
      refine ⟨fun h => by simp [Fence.wide] at h, fun c cs _ => ?_⟩
      obtain ⟨v, w2, hr, hs⟩ := h c cs
      exact ⟨v, w2, hr, stepsIn_wide.2 hs⟩
    | _ => exact h.elim
  | halt x w' => cases x <;> first | exact h | exact h.elim
theorem wpOp_round {n l : Nat} {P : Program} {ops : Array Oper} {Q : Exit → Act → World → Prop} (hnd : ∀ (i : Nat) (o : Oper), ops[i]? = some o → ∀ c, o.op ≠ Op.defer c) (hL : ¬ LetsOut Q) {i : Nat} {K K' : Act → World → Prop} (hK : ∀ a w, K a w → K' a w) {a : Act} {w : World}
    (h : wpOp P ops Q i K a w) : wpOpIn (Fence.wide.inRound l) n P ops Q i K' a w := by
  unfold wpOp at h
  unfold wpOpIn
  cases ho : ops[i]? with
  | none => rw [ho] at h; exact hK _ _ h
  | some o =>
    rw [ho] at h
    dsimp only at h ⊢
    split at h
    · rcases h with h | h
      · rw [if_pos (by assumption)]
        refine ⟨fun _ _ => trivial, ?_⟩
        rw [show (Fence.wide.inRound l).round = some l from rfl, Oper.semAt_some l _ o (hnd i o ho)]
        exact upon_round (Oper.wp_mono hK h)
      · exact absurd h.2 hL
    · rw [if_neg (by assumption)]
      exact ⟨fun _ _ => trivial, hK _ _ h⟩
theorem wpAny_round {n l : Nat} {P : Program} {md : Region.Mode} {ops : Array Oper} {Q : Exit → Act → World → Prop} (hnd : ∀ (i : Nat) (o : Oper), ops[i]? = some o → ∀ c, o.op ≠ Op.defer c) (hL : ¬ LetsOut Q) :
    ∀ (fuel : Nat) (listed : Array Bool) (a : Act) (w : World), wpAny P md ops Q fuel listed a w → wpAnyIn (Fence.wide.inRound l) n P md ops Q fuel listed a w
  | 0, _, _, _, h => h
  | fuel + 1, _, _, _, h => ⟨h.1, fun i hi => wpOp_round hnd hL (fun a' w' h' => wpAny_round hnd hL fuel _ a' w' h') (h.2 i hi)⟩
theorem round_region {n l id : Nat} {P : Program} {ops : Array Oper} {Q : Exit → Act → World → Prop} {S : World → Prop} {a : Act} {w : World} (hm : P.follows .mixedOrders = true) (hnd : ∀ (i : Nat) (o : Oper), ops[i]? = some o → ∀ c, o.op ≠ Op.defer c) (hL : ¬ LetsOut Q)
    (h : wpAnyH P .any ops Q S ops.size (Array.replicate ops.size false) a w.drew) : (Code.region id ops true).wpIn (Fence.wide.inRound l) n P Q a w :=
  wpIn_region_any hm (wpAny_round hnd hL _ _ _ _ (wpAny_of_held _ _ _ _ h))
def noDefer (o : Oper) : Bool := match o.op with | .defer _ => false | _ => true
theorem noDefer_all {ops : Array Oper} (h : ops.all noDefer = true) : ∀ (i : Nat) (o : Oper), ops[i]? = some o → ∀ c, o.op ≠ Op.defer c := fun i o ho c hc => by
  rw [Array.all_eq_true'] at h
  have := h o (Array.mem_of_getElem? ho)
  unfold noDefer at this
  rw [hc] at this
  cases this
/-- a cell loaded -/
theorem ld_cell {ty : TypeId} (ha : ∀ w, (isAgg ty).run Try.prog w = .ok false w) {ad : Addr} {v : Value} {W : World} (hc : W.cell? ad = some v) : (loadVar ty ad).run Try.prog W = .ok v W := by
  simp [loadVar, Sem.run_bind, ha W, Result.andThen_ok, hc]
theorem nag130 (w : World) : (isAgg 130).run Try.prog w = .ok false w := by
  unfold isAgg; rw [Sem.run_bind, run_underlying Try.underlying130 w]; rfl
theorem nag67 (w : World) : (isAgg 67).run Try.prog w = .ok false w := by
  unfold isAgg; rw [Sem.run_bind, run_underlying Try.underlying67 w]; rfl
theorem nag51 (w : World) : (isAgg 51).run Try.prog w = .ok false w := by
  unfold isAgg; rw [Sem.run_bind, run_underlying Try.underlying51 w]; rfl
theorem wp_load_cell {o : Oper} {a : Act} {w : World} {K : Act → World → Prop} {Q : Exit → Act → World → Prop} {ty : TypeId} {x : Operand} {ad : Addr} {v : Value} (ho : o.op = .load ty x) (hx : a.eval x = .pointer (some ad)) (ha : ∀ w, (isAgg ty).run Try.prog w = .ok false w) (hc : w.cell? ad = some v)
    (h : K (a.put o.dst v) w) : o.wp Try.prog a w K Q := by
  unfold Oper.wp
  rw [exec_load ho hx (ld_cell ha hc)]
  exact h
theorem size67 : (Try.prog.info? 67).map (·.size) = some 1 := by kernel_rfl
theorem size51 : (Try.prog.info? 51).map (·.size) = some 1 := by kernel_rfl
theorem slice_cells (A : Option Addr) (n c : Nat) : (Value.slice A n c).cells = #[.slice A n c] := rfl
theorem slice_one (A : Option Addr) (n c : Nat) : (Value.slice A n c).oneCell' = true := rfl
theorem cell_setCell_far (w : World) (p q : Addr) (v : Value) (h : p.block ≠ q.block) : (w.setCell p v).cell? q = w.cell? q := World.cell?_of_block (heap_setCell_other w p q.block v (Ne.symm h))
theorem wp_store_cell {o : Oper} {a : Act} {w : World} {K : Act → World → Prop} {Q : Exit → Act → World → Prop} {ty : TypeId} {x y : Operand} {b j : Nat} {u v : Value} (ho : o.op = .store ty x y) (hx : a.eval x = .pointer (some ⟨b, j, none⟩)) (hy : a.eval y = v)
    (hsz : (Try.prog.info? ty).map (·.size) = some 1) (hv : v.cells = #[v]) (hv1 : v.oneCell' = true) (hc : w.cell? ⟨b, j, none⟩ = some u) (hf : w.frozen? ⟨b, j, none⟩ = false) (h : K (a.put o.dst undef) (w.setCell ⟨b, j, none⟩ v)) : o.wp Try.prog a w K Q := by
  have h1 := run_size hsz w
  unfold Oper.wp execOp
  simp [ho, hx, hy, Instr.storeAt, Instr.sureAddr, Sem.run_bind, Result.andThen_ok, storeVar, hv, h1, storeCells, Addr.add_zero', run_store _ _ _ _ _ hv1, hc, hf]
  exact h
end Go.Proofs.Ytcgapfmdpchemaa
/- The contract of slices.Chunk at bytes, 248 at a time: an iterator over the parts. -/
namespace Go.Proofs.Ytcgapfmdpchemaa
open Go.RowKit Go.Shelf
attribute [local go_sem] Oper.semAt_some
/-- how many parts -/
def parts (n : Nat) : Nat := (n + 247) / 248
theorem parts_lt (n k : Nat) : k < parts n ↔ 248 * k < n := by unfold parts; omega
/-- part k of a slice -/
def partV (A : Option Addr) (n _c k : Nat) : Value := .slice (cut A (248 * k) (248 * k + min 248 (n - 248 * k)) 1) (min 248 (n - 248 * k)) (min 248 (n - 248 * k))
abbrev Part (n : Nat) := { k : Nat // 248 * k < n }
set_option maxRecDepth 1000000 in
set_option maxHeartbeats 2000000 in
theorem chunk1_in (m l Bs Bn : Nat) (A : Option Addr) (n c : Nat) (hn : n ≤ 1000000000) (hnc : n ≤ c) (hm : 1 ≤ m) (J Jx : List (Part n) → World → Prop)
    (hY : ∀ pre x W, J pre W → pre.length < parts n → YieldAt Fence.wide (m - 1) Try.prog l #[partV A n c x.1] W fun e W' =>
      (e = .returned (.bool true) ∧ J (pre ++ [x]) W' ∧ (W'.heap[Bs]? = W.heap[Bs]? ∧ W'.heap[Bn]? = W.heap[Bn]?)) ∨ (e = .returned (.bool false) ∧ Jx (pre ++ [x]) W'))
    (hdrew : ∀ pre W, J pre W → J pre W.drew)
    (W : World) (hBs : W.heap[Bs]? = some (.cells #[.slice A n c] 97 (0, 0))) (hBn : W.heap[Bn]? = some (.cells #[.int .i64 248] 3 (0, 0))) (h0 : J [] W) :
    CallsIn Fence.wide m Try.prog 81 #[.func (.yield l) #[] #[], .pointer (some ⟨Bs, 0, none⟩), .pointer (some ⟨Bn, 0, none⟩)] W fun e W' => (∃ v, e = .returned v) ∧
      ((∃ ys : List (Part n), ys.map (·.1) = List.range (parts n) ∧ J ys W') ∨ (∃ pre, True ∧ Jx pre W')) := by
  refine callsIn_of_wp Try.func81 rfl trivial ?_ rfl
  simp only [Try.ntmps81, List.size_toArray, List.length_cons, List.length_nil, Nat.reduceAdd, Nat.reduceSub, Array.replicate_succ, Array.replicate_zero, List.push_toArray, List.append_toArray, List.nil_append, List.cons_append]
  gi_wp2
  gi_loopw [4] (fun i wr => ∃ (k : Nat) (pre : List (Part n)), k ≤ parts n ∧ i = .int .i64 (248 * k : Nat) ∧ pre.map (·.1) = List.range k ∧ J pre wr ∧ wr.heap[Bs]? = W.heap[Bs]? ∧ wr.heap[Bn]? = W.heap[Bn]?)
    (fun i _ => n + 248 - (intOf i).toNat)
  case atStart => exact ⟨0, [], Nat.zero_le _, rfl, rfl, h0, rfl, rfl⟩
  case round =>
    obtain ⟨k, pre, hk, rfl, hpre, hJ, hb1, hb2⟩ := hrel
    have c1 : wr.cell? ⟨Bs, 0, none⟩ = some (.slice A n c) := by rw [cell_of_row _ _ _ _ _ _ (hb1.trans hBs)]; rfl
    have c2 : wr.cell? ⟨Bn, 0, none⟩ = some (.int .i64 248) := by rw [cell_of_row _ _ _ _ _ _ (hb2.trans hBn)]; rfl
    obtain ⟨q, hq⟩ : ∃ q, 248 * k = q := ⟨_, rfl⟩
    rw [hq]
    have HQ := Lib.hid hq; clear hq
    by_cases hlt : q < n
    · have hs : ∀ W : World, (Instr.sliceAt 97 (.slice A n c) (some (.int .i64 (q : Int))) none none).run Try.prog W = .ok (.slice (cut A q c 1) (n - q) (c - q)) W := fun W => by
        rw [run_cut Try.underlying97 size5 W A n c (some (.int .i64 (q : Int))) none none q n c (by
          simp only [Instr.sliceBounds, Sem.run_bind, Sem.run_pure, Result.andThen_ok, bound_ok _ _ _ _ (show q ≤ n by omega)])]
      have hlt' : (q : Int) < (n : Int) := by omega
      gi_wp2
      refine wpIn_wide.2 ?_
      go_region
      have hif : (if ((n - q : Nat) : Int) < 248 then ((n - q : Nat) : Int) else 248) = ((min 248 (n - q) : Nat) : Int) := by
        split <;> omega
      rw [hif]
      have hkn : 248 * k < n := by rw [HQ.out]; exact hlt
      have hkp : k < parts n := (parts_lt n k).2 hkn
      obtain ⟨fn, tmps, assign, body, hy, hR⟩ := hY pre ⟨k, hkn⟩ wr.drew (hdrew _ _ hJ) (by rw [← List.length_map (f := (·.1)), hpre, List.length_range]; exact hkp)
      simp only [partV, HQ.out] at hy hR
      have hr1 : min 248 (n - q) ≤ 248 := Nat.min_le_left _ _
      have hr2 : q + min 248 (n - q) ≤ n := by omega
      generalize min 248 (n - q) = r at *
      have hs2 : ∀ W : World, (Instr.sliceAt 97 (.slice A n c) (some (.int .i64 (q : Int))) (some (.int .i64 ((q : Int) + r))) (some (.int .i64 ((q : Int) + r)))).run Try.prog W = .ok (.slice (cut A q (q + r) 1) r r) W := fun W => by
        have e : (q : Int) + r = ((q + r : Nat) : Int) := by omega
        rw [e, run_cut Try.underlying97 size5 W A n c (some (.int .i64 (q : Int))) (some (.int .i64 ((q + r : Nat) : Int))) (some (.int .i64 ((q + r : Nat) : Int))) q (q + r) (q + r) (by
          simp only [Instr.sliceBounds, Sem.run_bind, Sem.run_pure, Result.andThen_ok, bound_ok _ _ _ _ (show q + r ≤ c by omega), bound_ok _ _ _ _ (Nat.le_refl (q + r)), bound_ok _ _ _ _ (show q ≤ q + r by omega)]), Nat.add_sub_cancel_left]
      have c1' : wr.drew.cell? ⟨Bs, 0, none⟩ = some (.slice A n c) := c1
      clear hif c1 hlt' hs
      gi_wp2
      refine hR.mono ?_
      rintro e W3 (⟨rfl, hJ3, hk1, hk2⟩ | ⟨rfl, hJx3⟩)
      · have hb2' : W3.heap[Bn]? = W.heap[Bn]? := hk2.trans hb2
        have hb1' : W3.heap[Bs]? = W.heap[Bs]? := hk1.trans hb1
        have c3 : W3.cell? ⟨Bn, 0, none⟩ = some (.int .i64 248) := by rw [cell_of_row _ _ _ _ _ _ (hb2'.trans hBn)]; rfl
        gi_wp2
        go_roundw
        case rel => exact ⟨k + 1, pre ++ [⟨k, hkn⟩], by omega, by have := HQ.out; congr 1; omega, by rw [List.map_append, hpre, List.range_succ]; rfl, hJ3, hb1', hb2'⟩
        case measure => simp [intOf]; omega
      · gi_wp2
        refine bodyPost_ret (results_none rfl _ _ _) rfl ?_
        exact ⟨⟨_, rfl⟩, .inr ⟨_, trivial, hJx3⟩⟩
    · have hge : (n : Int) ≤ (q : Int) := by omega
      gi_wp2
      go_end0
      have hkp : k = parts n := by
        have h1 := (not_congr (parts_lt n k)).2 (by rw [HQ.out]; exact hlt)
        omega
      exact ⟨⟨_, rfl⟩, .inl ⟨pre, by rw [hpre, hkp], hJ⟩⟩
/-- what a round that goes on keeps: the two boxes -/
def KeepB (Bs Bn : Nat) (W W' : World) : Prop := W'.heap[Bs]? = W.heap[Bs]? ∧ W'.heap[Bn]? = W.heap[Bn]?
theorem keepB_t {Bs Bn : Nat} {A B C : World} (h : KeepB Bs Bn A B) (k : KeepB Bs Bn B C) : KeepB Bs Bn A C := ⟨k.1.trans h.1, k.2.trans h.2⟩
theorem keepB_b {Bs Bn : Nat} {w : World} (h1 : Bs < w.heap.size) (h2 : Bn < w.heap.size) (W : World) (l : Nat) (o o' : Obj) (hl : w.heap.size ≤ l) (_ : W.heap[l]? = some o) (_ : o.isCells = false) (_ : o.isWalk = false) : KeepB Bs Bn W (W.putObj l o') := by
  have hg := grownBy_putObj' W l o'
  have hlt : ∀ k, k ≠ l → (W.putObj l o').heap[k]? = W.heap[k]? := fun k hk => by
    simp [World.putObj, Ne.symm hk]
  exact ⟨hlt _ (by omega), hlt _ (by omega)⟩
theorem chunk_stops (m Bs Bn : Nat) (A : Option Addr) (n c : Nat) (hn : n ≤ 1000000000) (hnc : n ≤ c) (hm : 1 ≤ m) (w : World) (hBs : w.heap[Bs]? = some (.cells #[.slice A n c] 97 (0, 0))) (hBn : w.heap[Bn]? = some (.cells #[.int .i64 248] 3 (0, 0))) :
    SeqStopsK Fence.wide m Try.prog 81 #[.pointer (some ⟨Bs, 0, none⟩), .pointer (some ⟨Bn, 0, none⟩)] (fun x : Part n => #[partV A n c x.1]) (KeepB Bs Bn) (fun ys => ys.map (·.1) = List.range (parts n)) (fun _ => True) (parts n) w := fun l J Jx W hW hJ _ hY h0 => by
  have h1 := (Array.getElem?_eq_some_iff.1 hBs).1
  have h2 := (Array.getElem?_eq_some_iff.1 hBn).1
  refine chunk1_in m l Bs Bn A n c hn hnc hm J Jx hY (fun pre W hp => hJ pre W W.drew none hp ⟨rfl, rfl, rfl, Nat.le_refl _, fun _ _ _ => rfl⟩ (fun r h => by cases h)) W ((hW.block _ h1).trans hBs) ((hW.block _ h2).trans hBn) h0
set_option maxHeartbeats 1000000 in
theorem chunk_any (w : World) (A : Option Addr) (n c : Nat) :
    Calls Try.prog 64 #[.slice A n c, .int .i64 248] w fun e w' => e = .returned (.func (.func 81) #[] #[.pointer (some ⟨w.heap.size, 0, none⟩), .pointer (some ⟨w.heap.size + 1, 0, none⟩)]) ∧ w' = (w.alloc (.cells #[.slice A n c] 97)).alloc (.cells #[.int .i64 248] 3) := by
  have hmf : ∀ (fn : Fn) (first cap : Array Value) (w : World), (Instr.makeFunc fn first cap).run Try.prog w = .ok (.func fn first cap) w := fun _ _ _ _ => rfl
  go_enter Try.func64, Try.ntmps64
  go_wp2
  go_ret
  exact ⟨rfl, rfl⟩
end Go.Proofs.Ytcgapfmdpchemaa
