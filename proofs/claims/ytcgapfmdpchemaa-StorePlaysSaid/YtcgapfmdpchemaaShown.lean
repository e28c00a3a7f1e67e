/- What shown's calls return, by the abstract disk. No function is walked here. -/
import Derived.Test.YtcgapfmdpchemaaSess
namespace Go.Proofs.Ytcgapfmdpchemaa
open Go.RowKit
def zs (n : Nat) : ByteArray := ⟨(List.replicate n 0).toArray⟩
def one (c : UInt8) : ByteArray := ⟨#[c]⟩
def sl1 : List Pt := [⟨one 97, zs 300, false⟩, ⟨one 98, one 120, false⟩]
def sl2 : List Pt := [⟨one 97, one 121, false⟩]
def sl3 : List Pt := [⟨one 99, one 49, false⟩]
def sl4 : List Pt := [⟨one 100, zs 800, false⟩]
def sl5 : List Pt := [⟨one 97, one 122, false⟩]
def sl6 : List Pt := [⟨one 98, ByteArray.empty, false⟩]
def sl7 : List Pt := [⟨one 98, one 113, false⟩]
def S0 : AD := newA 8
def S1 : AD := (S0.doA sl1 0).2
def S2 : AD := (S1.doA sl2 0).2
def S3 : AD := (S2.doA sl3 0).2
def S4 : AD := (S3.doA sl4 0).2
def S5 : AD := { S4 with fuse := 767 }
def S6 : AD := (S5.doA sl5 0).2
def S7 : AD := { S6 with fuse := -1, down := false }
def S8 : AD := { S7 with fuse := 768 }
def S9 : AD := (S8.doA sl5 0).2
def S10 : AD := (S9.doA sl6 0).2
def S11 : AD := { S10 with fuse := -1, down := false }
def S12 : AD := S11.hurt 4 0 1
def S13 : AD := (S12.doA sl7 0).2
theorem s0_ok : S0.state 0 = 0 ∧ S0.free = (6, 0) := by decide +kernel
theorem s1_ok : (S0.doA sl1 0).1 = 0 ∧ S1.free = (2, 0) ∧ S1.change = 2 := by decide +kernel
theorem s2_ok : (S1.doA sl2 0).1 = 0 ∧ S2.free = (3, 0) ∧ S2.change = 3 := by decide +kernel
theorem s3_ok : (S2.doA sl3 0).1 = 0 ∧ S3.change = 4 := by decide +kernel
theorem s4_ok : (S3.doA sl4 0).1 = 5 ∧ S4.change = 4 := by decide +kernel
theorem s6_ok : (S5.doA sl5 0).1 = 9 ∧ S6.down = true ∧ S6.change = 4 := by decide +kernel
theorem s7_ok : S7.get (one 97) = (one 121, 0) := by decide +kernel
theorem s9_ok : (S8.doA sl5 0).1 = 0 ∧ S9.get (one 97) = (one 122, 0) ∧ S9.change = 5 := by decide +kernel
theorem s10_ok : (S9.doA sl6 0).1 = 9 ∧ S10.change = 5 := by decide +kernel
theorem s11_ok : S11.hurts 4 = none ∧ S11.n = 8 := by decide +kernel
theorem s12_ok : S12.get (one 98) = (ByteArray.empty, 370) ∧ S12.scrub = ([4], 0) ∧ S12.change = 5 := by decide +kernel
theorem s13_ok : (S12.doA sl7 0).1 = 0 ∧ S13.scrub = ([], 0) := by decide +kernel
end Go.Proofs.Ytcgapfmdpchemaa
/- The walk of NewDisk again, saying that the disk's blocks are new ones. -/
namespace Go.Proofs.Ytcgapfmdpchemaa
open Go.RowKit
/-- a new disk in new blocks -/
def FreshDisk (N : Nat) (w' : World) (bd n : Nat) : Prop := ∃ bp bm, DiskAt w' bd bp bm (newC n) ∧ N ≤ bd ∧ N ≤ bp ∧ N ≤ bm
theorem below_only3 {N bd bp bm : Nat} {w w1 w2 : World} (h : Below N w w1) (o : Only3 bd bp bm w1 w2) (hN : N ≤ w.heap.size) (hb : N ≤ bd ∧ N ≤ bp ∧ N ≤ bm) : Below N w w2 :=
  h.trans ⟨o.os, o.tape, o.output, o.size, fun k hk => o.block k (by have := h.size; omega) (by omega) (by omega) (by omega)⟩
theorem below_more {N : Nat} {w w1 w2 : World} (h : Below N w w1) (b : Below w1.heap.size w1 w2) (hN : N ≤ w.heap.size) : Below N w w2 := h.trans (b.mono (Nat.le_trans hN h.size))
set_option maxRecDepth 1000000 in
set_option maxHeartbeats 1000000 in
theorem newDisk_fresh (w : World) (n : Nat) (h4 : 4 ≤ n) (h5 : n ≤ 4096) : Calls Try.prog 9 #[.int .i64 n] w fun e w' => ∃ bd, e = .returned (.tuple #[.pointer (some ⟨bd, 0, none⟩), .int .i64 0]) ∧ FreshDisk w.heap.size w' bd n ∧ Below w.heap.size w w' := by
  have h1 : ¬ (n : Int) < 4 := by omega
  have h2 : ¬ (4096 : Int) < (n : Int) := by omega
  have hmk := fun w => run_makeMap (P := Try.prog) 68 w
  go_enter Try.func9, Try.ntmps9
  go_wp2_with (refine mk67 rfl _ _ rfl n (by omega) rfl rfl ?_)
  intro w1 g1 s1 b1
  have G1 := Lib.hid g1; have S1 := Lib.hid s1; clear g1 s1
  go_wp2_with fail
  have hd2 : DiskAt ((w1.alloc (.map #[] 0)).alloc (.cells #[.slice (some ⟨w.heap.size, 0, none⟩) n n, .int .i64 (-1), .bool false, .map (some w1.heap.size)] 70)) (w1.heap.size + 1) w.heap.size w1.heap.size
      { n := n, bytes := List.replicate (256 * n) 0, fuse := -1, down := false, flaws := fun _ => none } := by
    have hlt : w.heap.size < w1.heap.size := by have := S1.out; omega
    refine ⟨?_, ?_, ⟨#[], 0, ?_, ?_⟩, by simp, by show 2 ≤ n; omega, h5⟩
    · have := heap_alloc_new (w1.alloc (.map #[] 0)) (.cells #[.slice (some ⟨w.heap.size, 0, none⟩) n n, .int .i64 (-1), .bool false, .map (some w1.heap.size)] 70)
      rw [World.size_alloc] at this
      exact this
    · rw [heap_alloc_old _ _ (by rw [World.size_alloc]; omega), heap_alloc_old _ _ hlt]; exact G1.out
    · rw [heap_alloc_old _ _ (by rw [World.size_alloc]; omega)]; exact heap_alloc_new _ _
    · exact ⟨by simp, fun k a f h => by simp at h, by simp⟩
  have b2 : Below w.heap.size w ((w1.alloc (.map #[] 0)).alloc (.cells #[.slice (some ⟨w.heap.size, 0, none⟩) n n, .int .i64 (-1), .bool false, .map (some w1.heap.size)] 70)) := (b1.alloc b1.size _).alloc (by rw [World.size_alloc]; have := b1.size; omega) _
  have FR : Hid (w.heap.size ≤ w1.heap.size + 1 ∧ w.heap.size ≤ w1.heap.size) := Lib.hid ⟨by have := S1.out; omega, by have := S1.out; omega⟩
  generalize (w1.alloc (.map #[] 0)).alloc (.cells #[.slice (some ⟨w.heap.size, 0, none⟩) n n, .int .i64 (-1), .bool false, .map (some w1.heap.size)] 70) = w2 at *
  generalize w1.heap.size + 1 = bd at *
  generalize w1.heap.size = bm at *
  have hbp := hd2.lt.2.1
  have hs2 := b2.size
  have hc0 : w2.cell? ⟨bd, 0, none⟩ = some (.slice (some ⟨w.heap.size, 0, none⟩) n n) := hd2.c0
  have hni : (0 : Int) < (n : Int) := by omega
  have hn0 : ¬ n = 0 := by omega
  refine wp_region_held (S := fun W => W.cell? ⟨bd, 0, none⟩ = some (.slice (some ⟨w.heap.size, 0, none⟩) n n)) (by kernel_rfl) ?_
  refine wpAnyH_take (i := 0) (v := .pointer (some ⟨bd, 0, none⟩)) rfl (by kernel_rfl) (by kernel_rfl) (by kernel_rfl) (fun _ _ _ h => h) (.inl ⟨by rfl, fun W hS => by kernel_rfl⟩) hc0 ?_
  refine wpAnyH_take (i := 1) (v := .pointer (some ⟨bd, 0, none⟩)) rfl (by kernel_rfl) (by kernel_rfl) (by kernel_rfl) (fun _ _ _ h => h) (.inl ⟨by rfl, fun W hS => by kernel_rfl⟩) hc0 ?_
  refine wpAnyH_take (i := 2) (v := .pointer (some ⟨bd, 0, none⟩)) rfl (by kernel_rfl) (by kernel_rfl) (by kernel_rfl) (fun _ _ _ h => h) (.inl ⟨by rfl, fun W hS => by kernel_rfl⟩) hc0 ?_
  refine wpAnyH_take (i := 3) (v := .slice (some ⟨w.heap.size, 0, none⟩) n n) rfl (by kernel_rfl) (by kernel_rfl) (by kernel_rfl) (fun _ _ _ h => h) (.inl ⟨by rfl, fun W hS => ?_⟩) hc0 ?_
  · unfold execOp
    go_simp
  refine wpAnyH_all (rs := [4]) (by kernel_rfl) (by simp) ?_
  intro i hi
  obtain rfl : i = 4 := by simpa using hi
  refine op_at rfl rfl ?_
  go_simp
  refine (head_any 1 0 (by decide) (by decide) [] (by decide) (by simp) (.slice none 0 0) _ ⟨none, 0, rfl, Nat.le_refl _, by decide, fun j hj => by simp [ivs] at hj⟩).mono ?_
  rintro e w3 ⟨rfl, b3⟩
  have hd3 : DiskAt w3 bd w.heap.size bm _ := hd2.drew.below b3 (Nat.le_refl _)
  refine ⟨hd3.c0, ?_⟩
  refine wpAnyH_take (i := 5) (v := .pointer (some ⟨w.heap.size, 0, none⟩)) rfl (by kernel_rfl) (by kernel_rfl) (by kernel_rfl) (fun _ _ _ h => h) (.inl ⟨by rfl, fun W hS => ?_⟩) hd3.c0 ?_
  · unfold execOp
    go_simp
  refine wpAnyH_all (rs := [6]) (by kernel_rfl) (by simp) ?_
  intro i hi
  obtain rfl : i = 6 := by simpa using hi
  refine op_at rfl rfl ?_
  refine op_st81 _ _ rfl rfl rfl (headB_length 1 0 [] (by decide)) hd3.p (by simp; omega) ?_
  intro w4 g4 o4
  have hd4 : DiskAt w4 bd w.heap.size bm (newC n) := by
    refine ⟨(o4.block _ hd3.ne.1).trans hd3.d, g4, ?_, ?_, by show 2 ≤ n; omega, h5⟩
    · obtain ⟨es, ck, hm, hf⟩ := hd3.m
      exact ⟨es, ck, (o4.block _ (Ne.symm hd3.ne.2.2)).trans hm, hf⟩
    · show (spl _ _ _).length = 256 * n
      rw [spl_length _ _ _ (by rw [headB_length 1 0 [] (by decide)]; simp; omega)]
      simp
  have b4 : Below w.heap.size w w4 := b2.trans (((Below.refl _ w2).drew.trans (b3.mono hs2)).trans (o4.below (Nat.le_refl _)))
  refine ⟨hd4.c0, ?_⟩
  refine wpAnyH_done (by kernel_rfl) ?_ _
  go_wp2
  go_ret2
  exact ⟨_, rfl, ⟨_, _, hd4, FR.out.1, Nat.le_refl _, FR.out.2⟩, b4⟩
end Go.Proofs.Ytcgapfmdpchemaa
