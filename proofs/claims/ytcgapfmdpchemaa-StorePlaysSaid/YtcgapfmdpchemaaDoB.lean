/- The first loop of Do: which pages are free. -/
import Derived.Test.YtcgapfmdpchemaaDoA
namespace Go.Proofs.Ytcgapfmdpchemaa
open Go.RowKit
def cR : Code → Code
  | .seq _ b => b
  | c => c
def cL : Code → Code
  | .seq a _ => a
  | c => c
def cB : Code → Code
  | .block _ b => b
  | c => c
def cLoop : Code → Code
  | .loop b => b
  | c => c
noncomputable def do1 : Code := cR (cR (Try.f11.body.getD .skip))
noncomputable def do3 : Code := cR (cR do1)
noncomputable def doLoop0 : Code := cLoop (cB (cR (cL do3)))
noncomputable def do4 : Code := cR do3
noncomputable def doLoop2 : Code := cLoop (cB (cR (cL do4)))
noncomputable def do5 : Code := cR do4
noncomputable def doLoop4 : Code := cLoop (cB (cR (cL do5)))
noncomputable def doTail : Code := cR do5
noncomputable def doT35 : Code := cR (cR (cR (cR doTail)))
noncomputable def doLoop6 : Code := cLoop (cB (cR (cL doT35)))
/-- what lies behind the first loop -/
def After0 (w : World) (bw : Nat) (U : List Bool) (w' : World) : Prop :=
  TK w.heap.size bw w w' ∧ ∃ vf, w'.heap[bw]? = some (.cells #[vf, .slice none 0 0, .slice none 0 0] 87 (0, 0)) ∧ IntsAt w' vf (freeL U)
set_option maxRecDepth 1000000 in
set_option maxHeartbeats 4000000 in
theorem do_loop0 (w : World) (g bw : Nat) (U : List Bool) (hU : U.length ≤ 100000) (hg : w.heap[g]? = some (.cells (bls U).toArray 4 (0, 0))) (hbw : w.heap[bw]? = some (.cells #[.slice none 0 0, .slice none 0 0, .slice none 0 0] 87 (0, 0)))
    (Q : Exit → Act → World → Prop) (x0 x1 x2 x3 x4 x5 x6 x10 x11 x12 x13 x14 x15 x16 x17 x18 x19 x20 x21 x22 x23 x24 x25 x26 x27 x28 x29 x30 x31 x32 x33 x34 x35 x36 x37 x38 x39 x40 x41 x42 x43 x44 x45 x62 x63 x64 x65 x66 x67 x68 x69 x70 x71 x72 x73 x74 x75 x76 x77 x78 x79 x80 x81 x82 x83 x84 x85 x86 x87 x88 x89 x90 x91 x92 x93 x94 x95 x96 x97 x98 x99 x100 x101 x102 x103 x104 x105 x106 x107 x108 x109 x110 x111 x112 x113 x114 x115 x116 x117 x118 x119 x120 x121 x122 x123 x124 x125 x126 x127 x128 x129 x130 x131 x132 x133 x134 x135 x136 x137 x138 x139 x140 x141 x142 x143 x144 x145 x146 x147 x148 x149 x150 x151 x152 x153 x154 x155 x156 x157 x158 x159 x160 x161 x162 x163 x164 x165 x166 x167 x168 x169 x170 x171 x172 x173 x174 x175 x176 x177 x178 x179 x180 : Value) (z8 z9 z49 z50 z51 z52 z53 z54 z55 z56 z57 z58 z59 z60 z61 : Value)
    (hexit : ∀ (y8 y9 y48 y49 y50 y51 y52 y53 y54 y55 y56 y57 y58 y59 y60 y61 : Value) (w' : World), After0 w bw U w' → Q (.exit 0) ⟨(List.toArray (x0 :: x1 :: x2 :: x3 :: x4 :: x5 :: x6 :: .pointer (some ⟨bw, 0, none⟩) :: y8 :: y9 :: x10 :: x11 :: x12 :: x13 :: x14 :: x15 :: x16 :: x17 :: x18 :: x19 :: x20 :: x21 :: x22 :: x23 :: x24 :: x25 :: x26 :: x27 :: x28 :: x29 :: x30 :: x31 :: x32 :: x33 :: x34 :: x35 :: x36 :: x37 :: x38 :: x39 :: x40 :: x41 :: x42 :: x43 :: x44 :: x45 :: .slice (some ⟨g, 0, none⟩) U.length U.length :: .int .i64 (U.length : Int) :: y48 :: y49 :: y50 :: y51 :: y52 :: y53 :: y54 :: y55 :: y56 :: y57 :: y58 :: y59 :: y60 :: y61 :: x62 :: x63 :: x64 :: x65 :: x66 :: x67 :: x68 :: x69 :: x70 :: x71 :: x72 :: x73 :: x74 :: x75 :: x76 :: x77 :: x78 :: x79 :: x80 :: x81 :: x82 :: x83 :: x84 :: x85 :: x86 :: x87 :: x88 :: x89 :: x90 :: x91 :: x92 :: x93 :: x94 :: x95 :: x96 :: x97 :: x98 :: x99 :: x100 :: x101 :: x102 :: x103 :: x104 :: x105 :: x106 :: x107 :: x108 :: x109 :: x110 :: x111 :: x112 :: x113 :: x114 :: x115 :: x116 :: x117 :: x118 :: x119 :: x120 :: x121 :: x122 :: x123 :: x124 :: x125 :: x126 :: x127 :: x128 :: x129 :: x130 :: x131 :: x132 :: x133 :: x134 :: x135 :: x136 :: x137 :: x138 :: x139 :: x140 :: x141 :: x142 :: x143 :: x144 :: x145 :: x146 :: x147 :: x148 :: x149 :: x150 :: x151 :: x152 :: x153 :: x154 :: x155 :: x156 :: x157 :: x158 :: x159 :: x160 :: x161 :: x162 :: x163 :: x164 :: x165 :: x166 :: x167 :: x168 :: x169 :: x170 :: x171 :: x172 :: x173 :: x174 :: x175 :: x176 :: x177 :: x178 :: x179 :: x180 :: [])), []⟩ w') :
    Code.wp Try.prog (Code.loop doLoop0) Q ⟨(List.toArray (x0 :: x1 :: x2 :: x3 :: x4 :: x5 :: x6 :: .pointer (some ⟨bw, 0, none⟩) :: z8 :: z9 :: x10 :: x11 :: x12 :: x13 :: x14 :: x15 :: x16 :: x17 :: x18 :: x19 :: x20 :: x21 :: x22 :: x23 :: x24 :: x25 :: x26 :: x27 :: x28 :: x29 :: x30 :: x31 :: x32 :: x33 :: x34 :: x35 :: x36 :: x37 :: x38 :: x39 :: x40 :: x41 :: x42 :: x43 :: x44 :: x45 :: .slice (some ⟨g, 0, none⟩) U.length U.length :: .int .i64 (U.length : Int) :: .int .i64 0 :: z49 :: z50 :: z51 :: z52 :: z53 :: z54 :: z55 :: z56 :: z57 :: z58 :: z59 :: z60 :: z61 :: x62 :: x63 :: x64 :: x65 :: x66 :: x67 :: x68 :: x69 :: x70 :: x71 :: x72 :: x73 :: x74 :: x75 :: x76 :: x77 :: x78 :: x79 :: x80 :: x81 :: x82 :: x83 :: x84 :: x85 :: x86 :: x87 :: x88 :: x89 :: x90 :: x91 :: x92 :: x93 :: x94 :: x95 :: x96 :: x97 :: x98 :: x99 :: x100 :: x101 :: x102 :: x103 :: x104 :: x105 :: x106 :: x107 :: x108 :: x109 :: x110 :: x111 :: x112 :: x113 :: x114 :: x115 :: x116 :: x117 :: x118 :: x119 :: x120 :: x121 :: x122 :: x123 :: x124 :: x125 :: x126 :: x127 :: x128 :: x129 :: x130 :: x131 :: x132 :: x133 :: x134 :: x135 :: x136 :: x137 :: x138 :: x139 :: x140 :: x141 :: x142 :: x143 :: x144 :: x145 :: x146 :: x147 :: x148 :: x149 :: x150 :: x151 :: x152 :: x153 :: x154 :: x155 :: x156 :: x157 :: x158 :: x159 :: x160 :: x161 :: x162 :: x163 :: x164 :: x165 :: x166 :: x167 :: x168 :: x169 :: x170 :: x171 :: x172 :: x173 :: x174 :: x175 :: x176 :: x177 :: x178 :: x179 :: x180 :: [])), []⟩ w := by
  have HE := Lib.hid hexit; clear hexit
  have hgw : g < w.heap.size := (Array.getElem?_eq_some_iff.1 hg).1
  have hbww : bw < w.heap.size := (Array.getElem?_eq_some_iff.1 hbw).1
  have hgb : g ≠ bw := by rintro rfl; rw [hg] at hbw; simp at hbw
  have HBW := Lib.hid hbw; have HG := Lib.hid hg; clear hbw hg
  conv => arg 2; arg 1; whnf
  go_loopw [48] (fun i wr => ∃ k : Nat, k ≤ U.length ∧ i = .int .i64 k ∧ TK w.heap.size bw w wr ∧ ∃ vf, wr.heap[bw]? = some (.cells #[vf, .slice none 0 0, .slice none 0 0] 87 (0, 0)) ∧ wr.ownsRow w.heap.size 3 1 vf (freeL (U.take k)).length (ivs (freeL (U.take k))))
    (fun i _ => U.length - (intOf i).toNat)
  case atStart => exact ⟨0, Nat.zero_le _, rfl, TK.refl _ _ _, _, HBW.out, World.ownsRow_nil _ _ _ _⟩
  case round =>
    obtain ⟨k, hk, rfl, htk, vf, hrow, own⟩ := hrel
    by_cases hlt : k < U.length
    · have hlti : (k : Int) < (U.length : Int) := by omega
      have hgr := htk.row HG.out hgb (by decide) (by decide)
      have hc : wr.cell? ⟨g, k, none⟩ = some (.bool U[k]) := by rw [cell_of_row _ _ _ _ _ _ hgr]; simp [bls, hlt]
      obtain ⟨c0, c1, c2⟩ := cells3 hrow
      have fz : wr.frozen? ⟨bw, 0, none⟩ = false := frozen_of_row _ _ _ _ _ hrow
      have hft := freeL_take U k hlt
      have hsz := htk.size
      have hfl : (freeL (U.take k)).length ≤ 100000 := by have := freeL_length (U.take k); rw [List.length_take] at this; omega
      have HROW := Lib.hid hrow; have HFT := Lib.hid hft; have HTK := Lib.hid htk
      clear hrow hft hgr htk
      cases hu : U[k] with
      | true =>
        rw [hu] at hc
        have HU := Lib.hid hu; clear hu
        go_wp2
        go_roundw
        case rel => exact ⟨k + 1, by omega, by go_num, HTK.out, vf, HROW.out, by rw [HFT.out, HU.out]; simpa using own⟩
        case measure => simp [intOf]; omega
      | false =>
        rw [hu] at hc
        have HU := Lib.hid hu; clear hu
        have hl1 : (freeL (U.take k)).length + 1 ≤ 1000000000 := by omega
        go_wp2_with (at_builtin; refine app_one el51 rfl _ _ rfl (v := vf) rfl own rfl rfl rfl hl1 hsz ?_)
        intro v' w' o' g' b'
        obtain ⟨A', c', rfl⟩ := own_slice o'
        have hrow' := grown_row own g' HROW.out (by decide)
        obtain ⟨c0', c1', c2'⟩ := cells3 hrow'
        have fz' : w'.frozen? ⟨bw, 0, none⟩ = false := frozen_of_row _ _ _ _ _ hrow'
        have T1 := (HTK.out.trans (TK.of_grown own g' (.inr rfl))).trans (TK.of_set w' bw 0 (.slice A' ((freeL (U.take k)).length + 1) c'))
        have R1 : (w'.setCell ⟨bw, 0, none⟩ (.slice A' ((freeL (U.take k)).length + 1) c')).heap[bw]? = some (.cells #[.slice A' ((freeL (U.take k)).length + 1) c', .slice none 0 0, .slice none 0 0] 87 (0, 0)) := by rw [heap_setCell_same w' bw 0 _ 87 _ hrow']; rfl
        have O1 := own_setCell o' ⟨bw, 0, none⟩ (.slice A' ((freeL (U.take k)).length + 1) c') hbww
        have HT1 := Lib.hid T1; have HR1 := Lib.hid R1; have HO1 := Lib.hid O1
        clear T1 R1 O1 hrow' own g' o' c0 c1 c2 fz c1' c2'
        go_wp2
        go_roundw
        case rel => exact ⟨k + 1, by omega, by go_num, HT1.out, _, HR1.out, by rw [HFT.out, HU.out]; simpa [ivs, iv] using HO1.out⟩
        case measure => simp [intOf]; omega
    · obtain rfl : k = U.length := by omega
      have hge : (U.length : Int) ≤ (U.length : Int) := Int.le_refl _
      rw [List.take_length] at own
      have HA := Lib.hid (show After0 w bw U wr from ⟨htk, vf, hrow, IntsAt.own own⟩)
      clear htk hrow own
      go_wp2
      exact HE.out _ _ _ _ _ _ _ _ _ _ _ _ _ _ _ _ wr HA.out
end Go.Proofs.Ytcgapfmdpchemaa
