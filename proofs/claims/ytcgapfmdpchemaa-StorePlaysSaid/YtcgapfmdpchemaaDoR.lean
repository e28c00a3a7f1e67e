/- How Do ends: what its deferred closure makes of a return and of a cut. -/
import Derived.Test.YtcgapfmdpchemaaDoT
namespace Go.Proofs.Ytcgapfmdpchemaa
open Go.RowKit
theorem nag29 (w : World) : (isAgg 29).run Try.prog w = .ok false w := by
  unfold isAgg; rw [Sem.run_bind, run_underlying Try.underlying29 w]; rfl
theorem do_results {w : World} {be : Nat} {n : Int} {tmps : Array Value} (h4 : tmps.getD 4 undef = .pointer (some ⟨be, 0, none⟩)) (hr : w.heap[be]? = some (.cells #[.int .i64 n] 29 (0, 0))) : (results Try.f11 tmps).run Try.prog w = .ok (.int .i64 n) w := by
  have hc : w.cell? ⟨be, 0, none⟩ = some (.int .i64 n) := by rw [cell_of_row _ _ _ _ _ _ hr]; rfl
  have hres : Try.f11.results = #[.cell 4 29] := by kernel_rfl
  have hl := ld_cell nag29 hc
  rw [Array.getD_eq_getD_getElem?] at h4
  simp [results, h4, hl, asAddr]
theorem do_ret {R : Ending → World → Prop} {w : World} {be : Nat} {n : Int} {tmps : Array Value} (h4 : tmps.getD 4 undef = .pointer (some ⟨be, 0, none⟩)) (hr : w.heap[be]? = some (.cells #[.int .i64 n] 29 (0, 0))) (hR : R (.returned (.int .i64 n)) w) : bodyPostD Try.prog Try.f11 R .ret ⟨tmps, []⟩ w :=
  ⟨_, do_results h4 hr, hR⟩
theorem do_ret_idle {R : Ending → World → Prop} {w : World} {be : Nat} {n : Int} {tmps : Array Value} (h4 : tmps.getD 4 undef = .pointer (some ⟨be, 0, none⟩)) (hr : w.heap[be]? = some (.cells #[.int .i64 n] 29 (0, 0))) (hR : R (.returned (.int .i64 n)) w) : bodyPostD Try.prog Try.f11 R .ret ⟨tmps, DLe be⟩ w := by
  refine leaves_cons (f := 41) (args := #[.pointer (some ⟨be, 0, none⟩)]) (by simp) (by simp [go_sem]) ?_
  refine (catch_idle be w).mono ?_
  rintro e u' w'' ⟨rfl, rfl, rfl⟩
  exact ⟨_, do_results h4 hr, hR⟩
theorem do_cut {R : Ending → World → Prop} {w : World} {be : Nat} {x : Value} {a : Act} (h4 : a.tmps.getD 4 undef = .pointer (some ⟨be, 0, none⟩)) (hd : a.defers = DLe be) (hr : w.heap[be]? = some (.cells #[x] 29 (0, 0)))
    (hR : R (.returned (.int .i64 9)) ((w.alloc (.cells #[] 101)).setCell ⟨be, 0, none⟩ (.int .i64 9))) : bodyPostD Try.prog Try.f11 R (.panic cutC) a w := by
  show Leaves Try.prog Try.f11 a.tmps R a.defers (.panicking cutC) w
  rw [hd]
  refine leaves_cons (f := 41) (args := #[.pointer (some ⟨be, 0, none⟩)]) (by simp) (by simp [go_sem]) ?_
  refine (catch_cut be x w hr).mono ?_
  rintro e u' w'' ⟨rfl, rfl, rfl⟩
  have hr' : ((w.alloc (.cells #[] 101)).setCell ⟨be, 0, none⟩ (.int .i64 9)).heap[be]? = some (.cells #[.int .i64 9] 29 (0, 0)) := by
    rw [heap_setCell_same _ be 0 _ 29 _ ((heap_alloc_old w _ (Array.getElem?_eq_some_iff.1 hr).1).trans hr)]; rfl
  exact ⟨_, do_results h4 hr', hR⟩
end Go.Proofs.Ytcgapfmdpchemaa
