/- The walk of read. -/
import Derived.Test.YtcgapfmdpchemaaDisk
namespace Go.Proofs.Ytcgapfmdpchemaa
open Go.RowKit
def wholeB (L : List UInt8) : Bool := sumB L == L.drop 248
def rooms (C : Cn) (ns : List Nat) : List UInt8 := ns.flatMap fun q => (C.page q).take 248
theorem rooms_length (C : Cn) (hl : C.bytes.length = 256 * C.n) (ns : List Nat) (h : ∀ q ∈ ns, q < C.n) : (rooms C ns).length = 248 * ns.length := by
  induction ns with
  | nil => rfl
  | cons q ns ih =>
    have hq := C.page_length hl (h q (by simp))
    have := ih fun q hq => h q (by simp [hq])
    rw [show rooms C (q :: ns) = (C.page q).take 248 ++ rooms C ns from rfl, List.length_append, List.length_take, hq, this, List.length_cons]
    omega
theorem rooms_snoc (C : Cn) (ns : List Nat) (k : Nat) (h : k < ns.length) : rooms C (ns.take (k + 1)) = rooms C (ns.take k) ++ (C.page ns[k]).take 248 := by
  unfold rooms
  rw [List.take_succ_eq_append_getElem h, List.flatMap_append, List.flatMap_cons, List.flatMap_nil, List.append_nil]
def ReadPost (C : Cn) (ns : List Nat) (size : Nat) (w : World) (e : Ending) (w' : World) : Prop :=
  Below w.heap.size w w' ∧
  (((∀ q ∈ ns, wholeB (C.page q) = true) ∧ ∃ v, e = .returned (.tuple #[v, .bool true]) ∧ Rd w' v size (bvs ((rooms C ns).take size))) ∨
   ((∃ q ∈ ns, wholeB (C.page q) = false) ∧ e = .returned (.tuple #[.slice none 0 0, .bool false])))
set_option maxRecDepth 100000 in
set_option maxHeartbeats 1000000 in
theorem read_any {bd bp bm : Nat} {C : Cn} (w : World) (h : DiskAt w bd bp bm C) (ns : List Nat) (hns : ∀ q ∈ ns, q < C.n) (hn : ns.length ≤ 1000) (size : Nat) (hsz : size ≤ 248 * ns.length) (v : Value)
    (hv : Rd w v ns.length (ivs ns)) :
    Calls Try.prog 44 #[.pointer (some ⟨bd, 0, none⟩), .int .i64 size, v] w (ReadPost C ns size w) := by
  have hv0 := hv
  obtain ⟨a, c, rfl, _, _, _⟩ := hv0
  go_enter Try.func44, Try.ntmps44
  go_wp2
  go_loopw [8, 13] (fun b i wr => ∃ k : Nat, k ≤ ns.length ∧ i = .int .i64 k ∧ Hid (∀ q ∈ ns.take k, wholeB (C.page q) = true) ∧ Below w.heap.size w wr ∧
      wr.ownsRow w.heap.size 5 1 b (rooms C (ns.take k)).length (bvs (rooms C (ns.take k))))
    (fun _ i _ => ns.length - (intOf i).toNat)
  case atStart => exact ⟨0, by omega, rfl, by intro q hq; simp at hq, Below.refl _ _, World.ownsRow_nil _ _ _ _⟩
  case round =>
    obtain ⟨k, hk, rfl, hwh, hbr, hown⟩ := hrel
    have hd := h.below hbr (Nat.le_refl _)
    have hvr := hv.below hbr (Nat.le_refl _)
    by_cases hlt : k < ns.length
    · obtain ⟨a', c', he, _, _, hcells⟩ := hvr
      cases he
      obtain ⟨b, off, rfl, hcell⟩ := hcells k (by rw [ivs_length]; exact hlt)
      have hcell' : wr.cell? ⟨b, off + k, none⟩ = some (.int .i64 ns[k]) := by rw [hcell]; simp [ivs, iv]
      clear hcell hcells
      have hq := hns _ (List.getElem_mem hlt)
      have hsn := rooms_snoc C ns k hlt
      have htk : ∀ q, q ∈ ns.take (k + 1) → q ∈ ns.take k ∨ q = ns[k] := fun q hq => by
        rw [List.take_succ_eq_append_getElem hlt, List.mem_append, List.mem_singleton] at hq; exact hq
      have hmem := List.getElem_mem hlt
      generalize hQ : ns[k] = q at *
      have HTK := Lib.hid htk; have HSN := Lib.hid hsn; have HQ := Lib.hid hQ; have HM := Lib.hid hmem; clear htk hsn hQ hmem
      have hc0 := hd.c0
      have hqi : (q : Int) < (C.n : Int) := by omega
      have hpl := C.page_length h.len hq
      have HPL := Lib.hid hpl; clear hpl
      have hrl := rooms_length C h.len (ns.take k) fun q hq => hns q (List.mem_of_mem_take hq)
      have HRL := Lib.hid hrl; clear hrl
      go_wp2_with (refine ld81d hd hq rfl _ rfl rfl ?_)
      refine (whole_any _ HPL.out _).mono ?_
      rintro e w1 ⟨rfl, b1⟩
      rw [show (sumB (C.page q) == (C.page q).drop 248) = wholeB (C.page q) from rfl]
      have hd1 := hd.below b1 (Nat.le_refl _)
      have hb1 : Below w.heap.size w w1 := hbr.trans (b1.mono hbr.size)
      have hown1 := own_below hown b1 (Nat.le_refl _)
      have hc01 := hd1.c0
      clear hc0
      cases hW : wholeB (C.page q)
      · go_wp2
        go_ret2
        exact ⟨hb1, .inr ⟨⟨q, HM.out, hW⟩, rfl⟩⟩
      · have HW := Lib.hid hW; clear hW
        have hsub : Rd w1 (.slice (some ⟨bp, q * 256, none⟩) 248 256) 248 (bvs ((C.page q).take 248)) := by
          have := Rd_sub hd1.p (q * 256) 248 256 (by rw [hd1.len]; omega)
          rwa [show (C.page q).take 248 = (C.bytes.drop (q * 256)).take 248 by rw [Cn.page, List.take_take]; rfl]
        have hl1 : (bvs ((C.page q).take 248)).length = 248 * 1 := by rw [bvs_length, List.length_take, HPL.out]; rfl
        have hl2 : (rooms C (ns.take k)).length + 248 ≤ 1000000000 := by rw [HRL.out]; have := List.length_take_le k ns; omega
        have HL1 := Lib.hid hl1; clear hl1
        go_wp2_with (at_builtin; refine app_rd el97 rfl _ _ rfl rfl hown1 rfl hsub HL1.out (oneCell_bvs _) hl2 hb1.size ?_)
        intro v2 w2 o2 _ b2
        go_wp2
        go_roundw
        case rel =>
          refine ⟨k + 1, by omega, by go_num, ?_, hb1.trans b2, ?_⟩
          · intro x hx
            rcases HTK.out x hx with hx | rfl
            · exact hwh.out x hx
            · exact HW.out
          · have e1 := HSN.out
            rw [e1, List.length_append, bvs_append, List.length_take, HPL.out]
            exact o2
        case measure => simp [intOf]; omega
    · obtain rfl : k = ns.length := by omega
      rw [List.take_length] at hwh hown
      have hrl := rooms_length C h.len ns hns
      rcases hown.2 with ⟨rfl, h0⟩ | ⟨g, cap, cur, rfl, hg1, hg2, hg3, hg4, hg5, hg6⟩
      · have hz : size = 0 := by omega
        subst hz
        clear hrl h0
        go_wp2
        go_ret2
        exact ⟨hbr, .inl ⟨hwh.out, _, rfl, ⟨_, _, rfl, Nat.le_refl _, by decide, fun j hj => by simp [bvs] at hj⟩⟩⟩
      · have hcap : size ≤ cap := by omega
        have hcap' : (size : Int) ≤ (cap : Int) := by omega
        have hcm : cap ≤ 9223372036854775807 := by unfold maxLen at hg4; omega
        have HR := Lib.hid hrl; clear hrl
        have HO := Lib.hid hown; clear hown
        have H2 := Lib.hid hg2; have H5 := Lib.hid hg5; have H6 := Lib.hid hg6; clear hg2 hg5 hg6
        clear hg3
        go_wp2
        go_ret2
        refine ⟨hbr, .inl ⟨hwh.out, _, rfl, ?_⟩⟩
        have := (Rd_own HO.out).front size cap hcap hg4
        rwa [show (bvs (rooms C ns)).take size = bvs ((rooms C ns).take size) from by simp [bvs]] at this
end Go.Proofs.Ytcgapfmdpchemaa
