/- A region in a round of a range over a function, walked as a region anywhere. No function is walked here. -/
import Derived.Test.YtcgapfmdpchemaaInsertG
import Derived.RangeFuncNested
import Derived.RangeFuncBound
import Derived.RangeFuncCalls
import Derived.RangeFuncLeaves
import Derived.RangeFuncBox
import Derived.Shelf.Abstract
import Derived.Shelf.RegionOpen
import Derived.OwnWalkIn
import Derived.TacticsInMore
import Derived.LoopNIn
import Derived.LoopIn
import Derived.OrdersHeld
namespace Go.Proofs.Ytcgapfmdpchemaa
open Go.RowKit
theorem upon_round {n l : Nat} {P : Program} {o : Oper} {a : Act} {K : Act → World → Prop} {Q : Exit → Act → World → Prop} {r : Result Next} (h : o.upon P a K Q r) : o.uponIn (Fence.wide.inRound l) n P a K Q r := by
  cases r with
  | ok nx w' =>
    cases nx with
    | value v => exact h
    | skip => exact h
    | defer d => exact h
    | enter f args => exact ⟨fun h => by simp [Fence.wide] at h, (callsIn_wide.2 h).inRound l⟩
    | row r args =>
      refine ⟨fun h => by simp [Fence.wide] at h, fun c cs _ => ?_⟩
      obtain ⟨v, w2, hr, hs⟩ := h c cs
      exact ⟨v, w2, hr, stepsIn_wide.2 hs⟩
    | _ => exact h.elim
  | halt x w' => cases x <;> first | exact h | exact h.elim
theorem wpOp_round {n l : Nat} {P : Program} {ops : Array Oper} {Q : Exit → Act → World → Prop} (hnd : ∀ (i : Nat) (o : Oper), ops[i]? = some o → ∀ c, o.op ≠ Op.defer c) (hL : ¬ LetsOut Q) {i : Nat} {K K' : Act → World → Prop} (hK : ∀ a w, K a w → K' a w) {a : Act} {w : World}
    (h : wpOp P ops Q i K a w) : wpOpIn (Fence.wide.inRound l) n P ops Q i K' a w := by
  unfold wpOp at h
  unfold wpOpIn
  cases ho : ops[i]? with
  | none => rw [ho] at h; exact hK _ _ h
  | some o =>
    rw [ho] at h
    dsimp only at h ⊢
    split at h
    · rcases h with h | h
      · rw [if_pos (by assumption)]
        refine ⟨fun _ _ => trivial, ?_⟩
        rw [show (Fence.wide.inRound l).round = some l from rfl, Oper.semAt_some l _ o (hnd i o ho)]
        exact upon_round (Oper.wp_mono hK h)
      · exact absurd h.2 hL
    · rw [if_neg (by assumption)]
      exact ⟨fun _ _ => trivial, hK _ _ h⟩
theorem wpAny_round {n l : Nat} {P : Program} {md : Region.Mode} {ops : Array Oper} {Q : Exit → Act → World → Prop} (hnd : ∀ (i : Nat) (o : Oper), ops[i]? = some o → ∀ c, o.op ≠ Op.defer c) (hL : ¬ LetsOut Q) :
    ∀ (fuel : Nat) (listed : Array Bool) (a : Act) (w : World), wpAny P md ops Q fuel listed a w → wpAnyIn (Fence.wide.inRound l) n P md ops Q fuel listed a w
  | 0, _, _, _, h => h
  | fuel + 1, _, _, _, h => ⟨h.1, fun i hi => wpOp_round hnd hL (fun a' w' h' => wpAny_round hnd hL fuel _ a' w' h') (h.2 i hi)⟩
theorem round_region {n l id : Nat} {P : Program} {ops : Array Oper} {Q : Exit → Act → World → Prop} {S : World → Prop} {a : Act} {w : World} (hm : P.follows .mixedOrders = true) (hnd : ∀ (i : Nat) (o : Oper), ops[i]? = some o → ∀ c, o.op ≠ Op.defer c) (hL : ¬ LetsOut Q)
    (h : wpAnyH P .any ops Q S ops.size (Array.replicate ops.size false) a w.drew) : (Code.region id ops true).wpIn (Fence.wide.inRound l) n P Q a w :=
  wpIn_region_any hm (wpAny_round hnd hL _ _ _ _ (wpAny_of_held _ _ _ _ h))
def noDefer (o : Oper) : Bool := match o.op with | .defer _ => false | _ => true
theorem noDefer_all {ops : Array Oper} (h : ops.all noDefer = true) : ∀ (i : Nat) (o : Oper), ops[i]? = some o → ∀ c, o.op ≠ Op.defer c := fun i o ho c hc => by
  rw [Array.all_eq_true'] at h
  have := h o (Array.mem_of_getElem? ho)
  unfold noDefer at this
  rw [hc] at this
  cases this
/-- a cell loaded -/
theorem ld_cell {ty : TypeId} (ha : ∀ w, (isAgg ty).run Try.prog w = .ok false w) {ad : Addr} {v : Value} {W : World} (hc : W.cell? ad = some v) : (loadVar ty ad).run Try.prog W = .ok v W := by
  simp [loadVar, Sem.run_bind, ha W, Result.andThen_ok, hc]
theorem nag130 (w : World) : (isAgg 130).run Try.prog w = .ok false w := by
  unfold isAgg; rw [Sem.run_bind, run_underlying Try.underlying130 w]; rfl
theorem nag67 (w : World) : (isAgg 67).run Try.prog w = .ok false w := by
  unfold isAgg; rw [Sem.run_bind, run_underlying Try.underlying67 w]; rfl
theorem nag51 (w : World) : (isAgg 51).run Try.prog w = .ok false w := by
  unfold isAgg; rw [Sem.run_bind, run_underlying Try.underlying51 w]; rfl
theorem wp_load_cell {o : Oper} {a : Act} {w : World} {K : Act → World → Prop} {Q : Exit → Act → World → Prop} {ty : TypeId} {x : Operand} {ad : Addr} {v : Value} (ho : o.op = .load ty x) (hx : a.eval x = .pointer (some ad)) (ha : ∀ w, (isAgg ty).run Try.prog w = .ok false w) (hc : w.cell? ad = some v)
    (h : K (a.put o.dst v) w) : o.wp Try.prog a w K Q := by
  unfold Oper.wp
  rw [exec_load ho hx (ld_cell ha hc)]
  exact h
theorem size67 : (Try.prog.info? 67).map (·.size) = some 1 := by kernel_rfl
theorem size51 : (Try.prog.info? 51).map (·.size) = some 1 := by kernel_rfl
theorem slice_cells (A : Option Addr) (n c : Nat) : (Value.slice A n c).cells = #[.slice A n c] := rfl
theorem slice_one (A : Option Addr) (n c : Nat) : (Value.slice A n c).oneCell' = true := rfl
theorem cell_setCell_far (w : World) (p q : Addr) (v : Value) (h : p.block ≠ q.block) : (w.setCell p v).cell? q = w.cell? q := World.cell?_of_block (heap_setCell_other w p q.block v (Ne.symm h))
theorem wp_store_cell {o : Oper} {a : Act} {w : World} {K : Act → World → Prop} {Q : Exit → Act → World → Prop} {ty : TypeId} {x y : Operand} {b j : Nat} {u v : Value} (ho : o.op = .store ty x y) (hx : a.eval x = .pointer (some ⟨b, j, none⟩)) (hy : a.eval y = v)
    (hsz : (Try.prog.info? ty).map (·.size) = some 1) (hv : v.cells = #[v]) (hv1 : v.oneCell' = true) (hc : w.cell? ⟨b, j, none⟩ = some u) (hf : w.frozen? ⟨b, j, none⟩ = false) (h : K (a.put o.dst undef) (w.setCell ⟨b, j, none⟩ v)) : o.wp Try.prog a w K Q := by
  have h1 := run_size hsz w
  unfold Oper.wp execOp
  simp [ho, hx, hy, Instr.storeAt, Instr.sureAddr, Sem.run_bind, Result.andThen_ok, storeVar, hv, h1, storeCells, Addr.add_zero', run_store _ _ _ _ _ hv1, hc, hf]
  exact h
end Go.Proofs.Ytcgapfmdpchemaa
