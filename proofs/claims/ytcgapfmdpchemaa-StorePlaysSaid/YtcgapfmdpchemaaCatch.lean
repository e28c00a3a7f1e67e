/- The deferred closure of Do: recover finds the cut, or nothing. -/
import Derived.Test.YtcgapfmdpchemaaTake
import Derived.Defers
import Derived.Recover
namespace Go.Proofs.Ytcgapfmdpchemaa
open Go.RowKit
set_option maxRecDepth 100000 in
set_option maxHeartbeats 1000000 in
theorem catch_idle (be : Nat) (w : World) :
    CallsD Try.prog 41 #[.pointer (some ⟨be, 0, none⟩)] .returning w fun e u' w' => e = .returned (.tuple #[]) ∧ u' = .returning ∧ w' = w := by
  refine callsD_of_wpS Try.func41 rfl fun c₀ cs hu => ?_
  apply wpS_seq
  apply wpS_region
  simp [wpOpsS, go_sem, recoverD, hu, Try.ntmps41, Exit.thenS]
  refine wpS_of_wp ?_
  cases c₀
  go_wp2
  simp_all [bodyPostS, results, Try.results41]
set_option maxRecDepth 100000 in
set_option maxHeartbeats 1000000 in
theorem catch_cut (be : Nat) (x : Value) (w : World) (hr : w.heap[be]? = some (.cells #[x] 29 (0, 0))) :
    CallsD Try.prog 41 #[.pointer (some ⟨be, 0, none⟩)] (.panicking [{ v := .iface 101 (.agg #[]), recovered := false }]) w fun e u' w' =>
      e = .returned (.tuple #[]) ∧ u' = .panicking [{ v := .iface 101 (.agg #[]), recovered := true }] ∧ w' = (w.alloc (.cells #[] 101)).setCell ⟨be, 0, none⟩ (.int .i64 9) := by
  have hlt := (Array.getElem?_eq_some_iff.1 hr).1
  have hr' : (w.alloc (.cells #[] 101)).heap[be]? = some (.cells #[x] 29 (0, 0)) := (heap_alloc_old w _ hlt).trans hr
  have c' : (w.alloc (.cells #[] 101)).cell? ⟨be, 0, none⟩ = some x := by rw [cell_of_row _ _ _ _ _ _ hr']; rfl
  have f' : (w.alloc (.cells #[] 101)).frozen? ⟨be, 0, none⟩ = false := frozen_of_row _ _ _ _ _ hr'
  clear hr hr'
  have hta : ∀ w, (Instr.typeAssert (.iface 101 (.agg #[])) 20 101 true).run Try.prog w = .ok (.tuple #[.agg #[], .bool true]) w := fun w => by kernel_rfl
  refine callsD_of_wpS Try.func41 rfl fun c₀ cs hu => ?_
  apply wpS_seq
  apply wpS_region
  simp [wpOpsS, go_sem, recoverD, hu, Try.ntmps41, Exit.thenS]
  refine wpS_of_wp ?_
  cases c₀
  go_wp2
  simp_all [bodyPostS, results, Try.results41]
end Go.Proofs.Ytcgapfmdpchemaa
