/- What shown's calls return, by the abstract disk. No function is walked here. -/
import Derived.Test.YtcgapfmdpchemaaSess
namespace Go.Proofs.Ytcgapfmdpchemaa
open Go.RowKit
def zs (n : Nat) : ByteArray := ⟨(List.replicate n 0).toArray⟩
def one (c : UInt8) : ByteArray := ⟨#[c]⟩
def sl1 : List Pt := [⟨one 97, zs 300, false⟩, ⟨one 98, one 120, false⟩]
def sl2 : List Pt := [⟨one 97, one 121, false⟩]
def sl3 : List Pt := [⟨one 99, one 49, false⟩]
def sl4 : List Pt := [⟨one 100, zs 800, false⟩]
def sl5 : List Pt := [⟨one 97, one 122, false⟩]
def sl6 : List Pt := [⟨one 98, ByteArray.empty, false⟩]
def sl7 : List Pt := [⟨one 98, one 113, false⟩]
def S0 : AD := newA 8
def S1 : AD := (S0.doA sl1 0).2
def S2 : AD := (S1.doA sl2 0).2
def S3 : AD := (S2.doA sl3 0).2
def S4 : AD := (S3.doA sl4 0).2
def S5 : AD := { S4 with fuse := 767 }
def S6 : AD := (S5.doA sl5 0).2
def S7 : AD := { S6 with fuse := -1, down := false }
def S8 : AD := { S7 with fuse := 768 }
def S9 : AD := (S8.doA sl5 0).2
def S10 : AD := (S9.doA sl6 0).2
def S11 : AD := { S10 with fuse := -1, down := false }
def S12 : AD := S11.hurt 4 0 1
def S13 : AD := (S12.doA sl7 0).2
theorem s0_ok : S0.state 0 = 0 ∧ S0.free = (6, 0) := by decide +kernel
theorem s1_ok : (S0.doA sl1 0).1 = 0 ∧ S1.free = (2, 0) ∧ S1.change = 2 := by decide +kernel
theorem s2_ok : (S1.doA sl2 0).1 = 0 ∧ S2.free = (3, 0) ∧ S2.change = 3 := by decide +kernel
theorem s3_ok : (S2.doA sl3 0).1 = 0 ∧ S3.change = 4 := by decide +kernel
theorem s4_ok : (S3.doA sl4 0).1 = 5 ∧ S4.change = 4 := by decide +kernel
theorem s6_ok : (S5.doA sl5 0).1 = 9 ∧ S6.down = true ∧ S6.change = 4 := by decide +kernel
theorem s7_ok : S7.get (one 97) = (one 121, 0) := by decide +kernel
theorem s9_ok : (S8.doA sl5 0).1 = 0 ∧ S9.get (one 97) = (one 122, 0) ∧ S9.change = 5 := by decide +kernel
theorem s10_ok : (S9.doA sl6 0).1 = 9 ∧ S10.change = 5 := by decide +kernel
theorem s11_ok : S11.hurts 4 = none ∧ S11.n = 8 := by decide +kernel
theorem s12_ok : S12.get (one 98) = (ByteArray.empty, 370) ∧ S12.scrub = ([4], 0) ∧ S12.change = 5 := by decide +kernel
theorem s13_ok : (S12.doA sl7 0).1 = 0 ∧ S13.scrub = ([], 0) := by decide +kernel
end Go.Proofs.Ytcgapfmdpchemaa
