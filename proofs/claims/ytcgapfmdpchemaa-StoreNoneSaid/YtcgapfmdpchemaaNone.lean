/- Disks and stores that are none: the walks of the methods. -/
import Derived.Test.YtcgapfmdpchemaaHelp
namespace Go.Proofs.Ytcgapfmdpchemaa
open Go.RowKit
/-- a disk that is none -/
def NoDisk (w : World) (d : Value) : Prop := Calls Try.prog 32 #[d] w fun e w' => e = .returned (.bool true) ∧ w = w'
/-- a store that is none -/
def NoStore (w : World) (s : Value) : Prop := ∀ e0 : Int, Calls Try.prog 33 #[s, .int .i64 e0] w fun e w' => e = .returned (.tuple #[.slice none 0 0, .slice none 0 0, .int .i64 1]) ∧ w = w'
section
variable {w : World} {d s : Value}
set_option maxHeartbeats 400000 in
theorem fail_no (h : NoDisk w d) (n : Int) : Calls Try.prog 14 #[d, .int .i64 n] w fun e w' => e = .returned (.int .i64 1) ∧ w = w' := by
  go_enter Try.func14, Try.ntmps14
  go_wp2_with fail
  refine h.mono ?_
  rintro e w' ⟨rfl, rfl⟩
  go_wp2
  go_ret
  exact ⟨rfl, rfl⟩
set_option maxHeartbeats 400000 in
theorem restart_no (h : NoDisk w d) : Calls Try.prog 17 #[d] w fun e w' => e = .returned (.int .i64 1) ∧ w = w' := by
  go_enter Try.func17, Try.ntmps17
  go_wp2_with fail
  refine h.mono ?_
  rintro e w' ⟨rfl, rfl⟩
  go_wp2
  go_ret
  exact ⟨rfl, rfl⟩
set_option maxHeartbeats 400000 in
theorem down_no (h : NoDisk w d) : Calls Try.prog 15 #[d] w fun e w' => e = .returned (.bool false) ∧ w = w' := by
  go_enter Try.func15, Try.ntmps15
  go_wp2_with fail
  refine h.mono ?_
  rintro e w' ⟨rfl, rfl⟩
  go_wp2
  go_ret
  exact ⟨rfl, rfl⟩
set_option maxHeartbeats 400000 in
theorem damage_no (h : NoDisk w d) (x y : Int) (f : UInt8) : Calls Try.prog 19 #[d, .int .i64 x, .int .i64 y, bv f] w fun e w' => e = .returned (.int .i64 1) ∧ w = w' := by
  unfold bv
  go_enter Try.func19, Try.ntmps19
  go_wp2_with fail
  refine h.mono ?_
  rintro e w' ⟨rfl, rfl⟩
  go_wp2
  go_ret
  exact ⟨rfl, rfl⟩
set_option maxHeartbeats 400000 in
theorem open_no (h : NoDisk w d) : Calls Try.prog 10 #[d] w fun e w' => e = .returned (.tuple #[.pointer none, .int .i64 1]) ∧ w = w' := by
  go_enter Try.func10, Try.ntmps10
  go_wp2_with fail
  refine h.mono ?_
  rintro e w' ⟨rfl, rfl⟩
  go_wp2
  go_ret2
  exact ⟨rfl, rfl⟩
set_option maxHeartbeats 400000 in
theorem free_no (h : NoStore w s) : Calls Try.prog 13 #[s] w fun e w' => e = .returned (.tuple #[.int .i64 0, .int .i64 1]) ∧ w = w' := by
  go_enter Try.func13, Try.ntmps13
  go_wp2_with fail
  refine (h 0).mono ?_
  rintro e w' ⟨rfl, rfl⟩
  go_wp2
  go_ret2
  exact ⟨rfl, rfl⟩
set_option maxHeartbeats 400000 in
theorem scrub_no (h : NoStore w s) : Calls Try.prog 22 #[s] w fun e w' => e = .returned (.tuple #[.slice none 0 0, .int .i64 1]) ∧ w = w' := by
  go_enter Try.func22, Try.ntmps22
  go_wp2_with fail
  refine (h 0).mono ?_
  rintro e w' ⟨rfl, rfl⟩
  go_wp2
  go_ret2
  exact ⟨rfl, rfl⟩
set_option maxHeartbeats 400000 in
theorem get_no (h : NoStore w s) (name : ByteArray) : Calls Try.prog 21 #[s, .string name] w fun e w' => e = .returned (.tuple #[.string ByteArray.empty, .int .i64 1]) ∧ w = w' := by
  by_cases hz : name.size = 0
  · have hem := empty_of hz
    go_enter Try.func21, Try.ntmps21
    go_wp2_with fail
    refine (h 2).mono ?_
    rintro e w' ⟨rfl, rfl⟩
    go_wp2
    go_ret2
    exact ⟨rfl, rfl⟩
  · have hem := nonempty_of hz
    by_cases h6 : (64 : Int) < (name.size : Int)
    · go_enter Try.func21, Try.ntmps21
      go_wp2_with fail
      refine (h 2).mono ?_
      rintro e w' ⟨rfl, rfl⟩
      go_wp2
      go_ret2
      exact ⟨rfl, rfl⟩
    · go_enter Try.func21, Try.ntmps21
      go_wp2_with fail
      refine (h 0).mono ?_
      rintro e w' ⟨rfl, rfl⟩
      go_wp2
      go_ret2
      exact ⟨rfl, rfl⟩
set_option maxHeartbeats 400000 in
theorem list_no (h : NoStore w s) (f : ByteArray) (most : Int) : Calls Try.prog 28 #[s, .string f, .int .i64 most] w fun e w' => e = .returned (.tuple #[.slice none 0 0, .int .i64 1]) ∧ w = w' := by
  by_cases h0 : most < 0
  · go_enter Try.func28, Try.ntmps28
    go_wp2_with fail
    refine (h 2).mono ?_
    rintro e w' ⟨rfl, rfl⟩
    go_wp2
    go_ret2
    exact ⟨rfl, rfl⟩
  · by_cases h1 : (1000 : Int) < most
    · go_enter Try.func28, Try.ntmps28
      go_wp2_with fail
      refine (h 2).mono ?_
      rintro e w' ⟨rfl, rfl⟩
      go_wp2
      go_ret2
      exact ⟨rfl, rfl⟩
    · go_enter Try.func28, Try.ntmps28
      go_wp2_with fail
      refine (h 0).mono ?_
      rintro e w' ⟨rfl, rfl⟩
      go_wp2
      go_ret2
      exact ⟨rfl, rfl⟩
end
end Go.Proofs.Ytcgapfmdpchemaa
