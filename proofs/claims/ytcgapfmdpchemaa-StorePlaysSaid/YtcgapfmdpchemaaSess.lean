/- The store's methods, of the abstract disk. The walks are behind us; here they are joined with what the abstract disk says. -/
import Derived.Test.YtcgapfmdpchemaaAbsF
import Derived.Test.YtcgapfmdpchemaaRefused
namespace Go.Proofs.Ytcgapfmdpchemaa
open Go.RowKit
/-- a disk in memory stands for an abstract one -/
def AtD (w : World) (bd bp bm : Nat) (A : AD) : Prop := ∃ C, DiskAt w bd bp bm C ∧ Rep C A
/-- a disk and an open store -/
structure Sess (w : World) (bs bd bp bm : Nat) (A : AD) : Prop where
  s : StoreAt w bs bd
  d : AtD w bd bp bm A
section
variable {w w' : World} {bs bd bp bm : Nat} {A : AD} {C : Cn}
theorem AtD.below {B : Nat} (h : AtD w bd bp bm A) (hb : Below B w w') (hB : w.heap.size ≤ B) : AtD w' bd bp bm A := by
  obtain ⟨C, h1, h2⟩ := h
  exact ⟨C, h1.below hb hB, h2⟩
theorem Sess.below {B : Nat} (h : Sess w bs bd bp bm A) (hb : Below B w w') (hB : w.heap.size ≤ B) : Sess w' bs bd bp bm A := ⟨h.s.below hb hB, h.d.below hb hB⟩
theorem StoreAt.only3 (hs : StoreAt w bs bd) (hD : DiskAt w bd bp bm C) (h : Only3 bd bp bm w w') : StoreAt w' bs bd := by
  obtain ⟨h1, h2, h3⟩ := hs.apart hD
  have hb := h.block bs (block_lt_of_cell hs) h1 h2 h3
  unfold StoreAt World.cell? at *
  rw [hb]; exact hs
end
section
variable {w : World} {bs bd bp bm : Nat} {A : AD}
theorem s_new (w : World) (n : Nat) (h4 : 4 ≤ n) (h5 : n ≤ 4096) : Calls Try.prog 9 #[.int .i64 n] w fun e w' => ∃ bd bp bm, e = .returned (.tuple #[.pointer (some ⟨bd, 0, none⟩), .int .i64 0]) ∧ AtD w' bd bp bm (newA n) ∧ Below w.heap.size w w' :=
  (newDisk_ok w n h4 h5).mono fun _ _ ⟨bd, bp, bm, he, hd, hb⟩ => ⟨bd, bp, bm, he, ⟨_, hd, rep_new n h4 h5⟩, hb⟩
theorem s_open (h : AtD w bd bp bm A) : Calls Try.prog 10 #[.pointer (some ⟨bd, 0, none⟩)] w fun e w' => Below w.heap.size w w' ∧
      ((A.state 0 = 0 ∧ ∃ bs, e = .returned (.tuple #[.pointer (some ⟨bs, 0, none⟩), .int .i64 0]) ∧ Sess w' bs bd bp bm A) ∨
       (A.state 0 ≠ 0 ∧ e = .returned (.tuple #[.pointer none, iv (A.state 0)]))) := by
  obtain ⟨C, hD, hR⟩ := h
  refine (open_any w hD hR.dir).mono ?_
  rintro e w' ⟨hb, h⟩
  rw [hR.state] at h
  refine ⟨hb, ?_⟩
  rcases h with ⟨h0, bs, he, hs⟩ | h
  · exact .inl ⟨h0, bs, he, hs, C, hD.below hb (Nat.le_refl _), hR⟩
  · exact .inr h
theorem s_do (h : Sess w bs bd bp bm A) (hch : A.change + 1 < 4294967296) (v : Value) (l : List Pt) (hp : PutsAt w v l) (hl : l.length ≤ 1000000) :
    Calls Try.prog 11 #[.pointer (some ⟨bs, 0, none⟩), v] w fun e w' => ∃ r, RefusedIs l r ∧ e = .returned (iv (A.doA l r).1) ∧ Sess w' bs bd bp bm (A.doA l r).2 ∧ Only3 bd bp bm w w' := by
  obtain ⟨hs, C, hD, hR⟩ := h
  refine (do_any w hs hD hR.dir v l hp hl (by rw [hR.fuse]; exact hR.fuseb) (hR.hchg hch)).mono ?_
  rintro e w' ⟨r, hr, he, hd, ho⟩
  obtain ⟨h1, h2⟩ := hR.doA hch l hr
  exact ⟨r, hr, by rw [← h1]; exact he, ⟨hs.only3 hD ho, _, hd, h2⟩, ho⟩
theorem s_free (h : Sess w bs bd bp bm A) : Calls Try.prog 13 #[.pointer (some ⟨bs, 0, none⟩)] w fun e w' => e = .returned (.tuple #[iv A.free.1, iv A.free.2]) ∧ Below w.heap.size w w' := by
  obtain ⟨hs, C, hD, hR⟩ := h
  refine (free_any w hs hD hR.dir).mono ?_
  rw [hR.free]
  exact fun _ _ h => h
theorem s_get (h : Sess w bs bd bp bm A) (name : ByteArray) : Calls Try.prog 21 #[.pointer (some ⟨bs, 0, none⟩), .string name] w fun e w' => e = .returned (.tuple #[.string (A.get name).1, .int .i64 (A.get name).2]) ∧ Below w.heap.size w w' := by
  obtain ⟨hs, C, hD, hR⟩ := h
  refine (get_any w hs hD hR.dir name).mono ?_
  rw [hR.get]
  exact fun _ _ h => h
theorem s_scrub (h : Sess w bs bd bp bm A) : Calls Try.prog 22 #[.pointer (some ⟨bs, 0, none⟩)] w fun e w' => ∃ v, e = .returned (.tuple #[v, iv A.scrub.2]) ∧ Below w.heap.size w w' ∧ w'.ownsRow w.heap.size 3 1 v A.scrub.1.length (ivs A.scrub.1) := by
  obtain ⟨hs, C, hD, hR⟩ := h
  refine (scrub_any w hs hD hR.dir).mono ?_
  rw [hR.scrub]
  exact fun _ _ h => h
theorem s_list (h : Sess w bs bd bp bm A) (f : ByteArray) (m : Int) : Calls Try.prog 28 #[.pointer (some ⟨bs, 0, none⟩), .string f, .int .i64 m] w fun e w' => ∃ v, e = .returned (.tuple #[v, iv (A.list f m).2]) ∧ Below w.heap.size w w' ∧ w'.ownsRow w.heap.size 9 1 v (A.list f m).1.length (strs (A.list f m).1) := by
  obtain ⟨hs, C, hD, hR⟩ := h
  refine (list_any w hs hD hR.dir f m).mono ?_
  rw [hR.list]
  exact fun _ _ h => h
theorem s_fail (h : Sess w bs bd bp bm A) (n : Int) (hn : ¬ n < 0) (hb : n ≤ 9223372036854775807) : Calls Try.prog 14 #[.pointer (some ⟨bd, 0, none⟩), .int .i64 n] w fun e w' => e = .returned (.int .i64 0) ∧ Sess w' bs bd bp bm { A with fuse := n } ∧ Only3 bd bp bm w w' := by
  obtain ⟨hs, C, hD, hR⟩ := h
  exact (fail_ok w hD n hn).mono fun _ _ ⟨he, hd, ho⟩ => ⟨he, ⟨hs.only3 hD ho, _, hd, hR.fail hb⟩, ho⟩
theorem s_restart (h : Sess w bs bd bp bm A) : Calls Try.prog 17 #[.pointer (some ⟨bd, 0, none⟩)] w fun e w' => e = .returned (.int .i64 0) ∧ Sess w' bs bd bp bm { A with fuse := -1, down := false } ∧ Only3 bd bp bm w w' := by
  obtain ⟨hs, C, hD, hR⟩ := h
  exact (restart_ok w hD).mono fun _ _ ⟨he, hd, ho⟩ => ⟨he, ⟨hs.only3 hD ho, _, hd, hR.restart⟩, ho⟩
theorem s_down (h : Sess w bs bd bp bm A) : Calls Try.prog 15 #[.pointer (some ⟨bd, 0, none⟩)] w fun e w' => e = .returned (.bool A.down) ∧ w = w' := by
  obtain ⟨hs, C, hD, hR⟩ := h
  have := down_ok w hD
  rw [hR.down] at this
  exact this
theorem s_hurt (h : Sess w bs bd bp bm A) (q a : Nat) (h2 : 2 ≤ q) (hq : q < A.n) (ha : a < 256) (f : UInt8) (hf : f ≠ 0) : Calls Try.prog 19 #[.pointer (some ⟨bd, 0, none⟩), .int .i64 q, .int .i64 a, bv f] w fun e w' => Only3 bd bp bm w w' ∧
      ((∃ a' f', A.hurts q = some (a', f') ∧ a' ≠ a ∧ e = .returned (.int .i64 8) ∧ Sess w' bs bd bp bm A) ∨
       ((∀ a' f', A.hurts q = some (a', f') → a' = a) ∧ e = .returned (.int .i64 0) ∧ Sess w' bs bd bp bm (A.hurt q a f))) := by
  obtain ⟨hs, C, hD, hR⟩ := h
  refine (damage_ok w hD q a h2 (by rw [hR.n]; exact hq) ha f hf).mono ?_
  rintro e w' ⟨ho, h⟩
  rw [hR.flaws] at h
  refine ⟨ho, ?_⟩
  rcases h with ⟨a', f', h1, h3, he, hd⟩ | ⟨h1, he, hd⟩
  · exact .inl ⟨a', f', h1, h3, he, hs.only3 hD ho, C, hd, hR⟩
  · exact .inr ⟨h1, he, hs.only3 hD ho, _, hd, hR.hurt h2 hq ha hf h1⟩
end
end Go.Proofs.Ytcgapfmdpchemaa
