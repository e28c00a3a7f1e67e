/- The second loop of Do: is each name that is to be struck there? -/
import Derived.Test.YtcgapfmdpchemaaDoB
namespace Go.Proofs.Ytcgapfmdpchemaa
open Go.RowKit
/-- is a name to be struck that is not there? -/
def noneB (es : List DE) (l : List Pt) : Bool := l.any fun x => x.drop && !(isB es x.name)
theorem noneB_take (es : List DE) (l : List Pt) (k : Nat) (hk : k < l.length) : noneB es (l.take (k + 1)) = (noneB es (l.take k) || (l[k].drop && !(isB es l[k].name))) := by
  unfold noneB
  rw [List.take_succ_eq_append_getElem hk, List.any_append]
  simp
theorem noneB_of_take {es : List DE} {l : List Pt} {k : Nat} (h : noneB es (l.take k) = true) : noneB es l = true := by
  unfold noneB at *
  obtain ⟨x, hx, hb⟩ := List.any_eq_true.1 h
  exact List.any_eq_true.2 ⟨x, List.mem_of_mem_take hx, hb⟩
set_option maxRecDepth 1000000 in
set_option maxHeartbeats 4000000 in
theorem do_loop2 (w : World) (be : Nat) (l : List Pt) (Ap : Option Addr) (cp : Nat) (v5 : Value) (ps : List (DE × Value)) (x0e : Value) (hp : PutsAt w (.slice Ap l.length cp) l) (hl : l.length ≤ 1000000) (he5 : EntRd w v5 ps) (hasc : Asc (ents ps)) (hps : ps.length ≤ 1000000)
    (hbe : w.heap[be]? = some (.cells #[x0e] 29 (0, 0)))
    (Q : Exit → Act → World → Prop) (x0 x1 x2 x3 x6 x7 x8 x9 x10 x14 x15 x16 x17 x18 x19 x20 x21 x22 x23 x24 x25 x26 x27 x28 x29 x30 x31 x32 x33 x34 x35 x36 x37 x38 x39 x40 x41 x42 x43 x44 x45 x46 x47 x48 x49 x50 x51 x52 x53 x54 x55 x56 x57 x58 x59 x60 x61 x82 x83 x84 x85 x86 x87 x88 x89 x90 x91 x92 x93 x94 x95 x96 x97 x98 x99 x100 x101 x102 x103 x104 x105 x106 x107 x108 x109 x110 x111 x112 x113 x114 x115 x116 x117 x118 x119 x120 x121 x122 x123 x124 x125 x126 x127 x128 x129 x130 x131 x132 x133 x134 x135 x136 x137 x138 x139 x140 x141 x142 x143 x144 x145 x146 x147 x148 x149 x150 x151 x152 x153 x154 x155 x156 x157 x158 x159 x160 x161 x162 x163 x164 x165 x166 x167 x168 x169 x170 x171 x172 x173 x174 x175 x176 x177 x178 x179 x180 : Value) (z11 z12 z13 z65 z66 z67 z68 z69 z70 z71 z72 z73 z74 z75 z76 z77 z78 z79 z80 z81 : Value)
    (hexit : ∀ (y11 y12 y13 y64 y65 y66 y67 y68 y69 y70 y71 y72 y73 y74 y75 y76 y77 y78 y79 y80 y81 : Value) (w' : World), Below w.heap.size w w' → noneB (ents ps) l = false → Q (.exit 2) ⟨(List.toArray (x0 :: x1 :: x2 :: x3 :: .pointer (some ⟨be, 0, none⟩) :: v5 :: x6 :: x7 :: x8 :: x9 :: x10 :: y11 :: y12 :: y13 :: x14 :: x15 :: x16 :: x17 :: x18 :: x19 :: x20 :: x21 :: x22 :: x23 :: x24 :: x25 :: x26 :: x27 :: x28 :: x29 :: x30 :: x31 :: x32 :: x33 :: x34 :: x35 :: x36 :: x37 :: x38 :: x39 :: x40 :: x41 :: x42 :: x43 :: x44 :: x45 :: x46 :: x47 :: x48 :: x49 :: x50 :: x51 :: x52 :: x53 :: x54 :: x55 :: x56 :: x57 :: x58 :: x59 :: x60 :: x61 :: .slice Ap l.length cp :: .int .i64 (l.length : Int) :: y64 :: y65 :: y66 :: y67 :: y68 :: y69 :: y70 :: y71 :: y72 :: y73 :: y74 :: y75 :: y76 :: y77 :: y78 :: y79 :: y80 :: y81 :: x82 :: x83 :: x84 :: x85 :: x86 :: x87 :: x88 :: x89 :: x90 :: x91 :: x92 :: x93 :: x94 :: x95 :: x96 :: x97 :: x98 :: x99 :: x100 :: x101 :: x102 :: x103 :: x104 :: x105 :: x106 :: x107 :: x108 :: x109 :: x110 :: x111 :: x112 :: x113 :: x114 :: x115 :: x116 :: x117 :: x118 :: x119 :: x120 :: x121 :: x122 :: x123 :: x124 :: x125 :: x126 :: x127 :: x128 :: x129 :: x130 :: x131 :: x132 :: x133 :: x134 :: x135 :: x136 :: x137 :: x138 :: x139 :: x140 :: x141 :: x142 :: x143 :: x144 :: x145 :: x146 :: x147 :: x148 :: x149 :: x150 :: x151 :: x152 :: x153 :: x154 :: x155 :: x156 :: x157 :: x158 :: x159 :: x160 :: x161 :: x162 :: x163 :: x164 :: x165 :: x166 :: x167 :: x168 :: x169 :: x170 :: x171 :: x172 :: x173 :: x174 :: x175 :: x176 :: x177 :: x178 :: x179 :: x180 :: [])), []⟩ w')
    (hret : ∀ (y11 y12 y13 y64 y65 y66 y67 y68 y69 y70 y71 y72 y73 y74 y75 y76 y77 y78 y79 y80 y81 : Value) (w' : World), Below w.heap.size w w' → noneB (ents ps) l = true → Q .ret ⟨(List.toArray (x0 :: x1 :: x2 :: x3 :: .pointer (some ⟨be, 0, none⟩) :: v5 :: x6 :: x7 :: x8 :: x9 :: x10 :: y11 :: y12 :: y13 :: x14 :: x15 :: x16 :: x17 :: x18 :: x19 :: x20 :: x21 :: x22 :: x23 :: x24 :: x25 :: x26 :: x27 :: x28 :: x29 :: x30 :: x31 :: x32 :: x33 :: x34 :: x35 :: x36 :: x37 :: x38 :: x39 :: x40 :: x41 :: x42 :: x43 :: x44 :: x45 :: x46 :: x47 :: x48 :: x49 :: x50 :: x51 :: x52 :: x53 :: x54 :: x55 :: x56 :: x57 :: x58 :: x59 :: x60 :: x61 :: .slice Ap l.length cp :: .int .i64 (l.length : Int) :: y64 :: y65 :: y66 :: y67 :: y68 :: y69 :: y70 :: y71 :: y72 :: y73 :: y74 :: y75 :: y76 :: y77 :: y78 :: y79 :: y80 :: y81 :: x82 :: x83 :: x84 :: x85 :: x86 :: x87 :: x88 :: x89 :: x90 :: x91 :: x92 :: x93 :: x94 :: x95 :: x96 :: x97 :: x98 :: x99 :: x100 :: x101 :: x102 :: x103 :: x104 :: x105 :: x106 :: x107 :: x108 :: x109 :: x110 :: x111 :: x112 :: x113 :: x114 :: x115 :: x116 :: x117 :: x118 :: x119 :: x120 :: x121 :: x122 :: x123 :: x124 :: x125 :: x126 :: x127 :: x128 :: x129 :: x130 :: x131 :: x132 :: x133 :: x134 :: x135 :: x136 :: x137 :: x138 :: x139 :: x140 :: x141 :: x142 :: x143 :: x144 :: x145 :: x146 :: x147 :: x148 :: x149 :: x150 :: x151 :: x152 :: x153 :: x154 :: x155 :: x156 :: x157 :: x158 :: x159 :: x160 :: x161 :: x162 :: x163 :: x164 :: x165 :: x166 :: x167 :: x168 :: x169 :: x170 :: x171 :: x172 :: x173 :: x174 :: x175 :: x176 :: x177 :: x178 :: x179 :: x180 :: [])), []⟩ (w'.setCell ⟨be, 0, none⟩ (.int .i64 4))) :
    Code.wp Try.prog (Code.loop doLoop2) Q ⟨(List.toArray (x0 :: x1 :: x2 :: x3 :: .pointer (some ⟨be, 0, none⟩) :: v5 :: x6 :: x7 :: x8 :: x9 :: x10 :: z11 :: z12 :: z13 :: x14 :: x15 :: x16 :: x17 :: x18 :: x19 :: x20 :: x21 :: x22 :: x23 :: x24 :: x25 :: x26 :: x27 :: x28 :: x29 :: x30 :: x31 :: x32 :: x33 :: x34 :: x35 :: x36 :: x37 :: x38 :: x39 :: x40 :: x41 :: x42 :: x43 :: x44 :: x45 :: x46 :: x47 :: x48 :: x49 :: x50 :: x51 :: x52 :: x53 :: x54 :: x55 :: x56 :: x57 :: x58 :: x59 :: x60 :: x61 :: .slice Ap l.length cp :: .int .i64 (l.length : Int) :: .int .i64 0 :: z65 :: z66 :: z67 :: z68 :: z69 :: z70 :: z71 :: z72 :: z73 :: z74 :: z75 :: z76 :: z77 :: z78 :: z79 :: z80 :: z81 :: x82 :: x83 :: x84 :: x85 :: x86 :: x87 :: x88 :: x89 :: x90 :: x91 :: x92 :: x93 :: x94 :: x95 :: x96 :: x97 :: x98 :: x99 :: x100 :: x101 :: x102 :: x103 :: x104 :: x105 :: x106 :: x107 :: x108 :: x109 :: x110 :: x111 :: x112 :: x113 :: x114 :: x115 :: x116 :: x117 :: x118 :: x119 :: x120 :: x121 :: x122 :: x123 :: x124 :: x125 :: x126 :: x127 :: x128 :: x129 :: x130 :: x131 :: x132 :: x133 :: x134 :: x135 :: x136 :: x137 :: x138 :: x139 :: x140 :: x141 :: x142 :: x143 :: x144 :: x145 :: x146 :: x147 :: x148 :: x149 :: x150 :: x151 :: x152 :: x153 :: x154 :: x155 :: x156 :: x157 :: x158 :: x159 :: x160 :: x161 :: x162 :: x163 :: x164 :: x165 :: x166 :: x167 :: x168 :: x169 :: x170 :: x171 :: x172 :: x173 :: x174 :: x175 :: x176 :: x177 :: x178 :: x179 :: x180 :: [])), []⟩ w := by
  have HE := Lib.hid hexit; have HR := Lib.hid hret; clear hexit hret
  have hbew : be < w.heap.size := (Array.getElem?_eq_some_iff.1 hbe).1
  have HBE := Lib.hid hbe; clear hbe
  conv => arg 2; arg 1; whnf
  go_loopw [64] (fun i wr => ∃ k : Nat, k ≤ l.length ∧ i = .int .i64 k ∧ Below w.heap.size w wr ∧ noneB (ents ps) (l.take k) = false)
    (fun i _ => l.length - (intOf i).toNat)
  case atStart => exact ⟨0, Nat.zero_le _, rfl, Below.refl _ _, rfl⟩
  case round =>
    obtain ⟨k, hk, rfl, hb, hnn⟩ := hrel
    have HNN := Lib.hid hnn; clear hnn
    by_cases hlt : k < l.length
    · have hlti : (k : Int) < (l.length : Int) := by omega
      have hpr := hp.below hb (Nat.le_refl _)
      obtain ⟨b, off, c', he, h0, h1, h2⟩ := PutsAt.cells hpr hlt
      cases he
      have hnt := noneB_take (ents ps) l k hlt
      have her := he5.below hb (Nat.le_refl _)
      have hsz := hb.size
      generalize hX : l[k] = x at *
      have HNT := Lib.hid hnt; clear hnt hX hpr
      have hobj := heap_alloc_new wr (.cells #[.string x.name, .string x.value, .bool x.drop] 46)
      have b0 : Below w.heap.size w (wr.alloc (.cells #[.string x.name, .string x.value, .bool x.drop] 46)) := hb.alloc hb.size _
      have her0 : EntRd (wr.alloc (.cells #[.string x.name, .string x.value, .bool x.drop] 46)) v5 ps := her.below ((Below.refl _ wr).alloc (Nat.le_refl _) _) (Nat.le_refl _)
      obtain ⟨w0, hW0⟩ : ∃ w0, wr.alloc (.cells #[.string x.name, .string x.value, .bool x.drop] 46) = w0 := ⟨_, rfl⟩
      rw [hW0] at hobj b0 her0
      obtain ⟨a0, a1, a2⟩ := cells3 hobj
      have HOBJ := Lib.hid hobj; have HER := Lib.hid her0
      clear hobj her her0
      go_wp2_with fail
      refine (find_any w0 v5 ps HER.out hasc hps x.name).mono ?_
      rintro e w1 ⟨rfl, b1⟩
      have hHs : wr.heap.size < w0.heap.size := (Array.getElem?_eq_some_iff.1 HOBJ.out).1
      obtain ⟨d0, d1, d2⟩ := cells3 ((b1.block _ hHs).trans HOBJ.out)
      have bb : Below w.heap.size w w1 := b0.trans (b1.mono b0.size)
      have hbe1 := (bb.block be hbew).trans HBE.out
      have cbe : w1.cell? ⟨be, 0, none⟩ = some x0e := by rw [cell_of_row _ _ _ _ _ _ hbe1]; rfl
      have fbe : w1.frozen? ⟨be, 0, none⟩ = false := frozen_of_row _ _ _ _ _ hbe1
      have HBE1 := Lib.hid hbe1; clear hbe1 a0 a1 a2 hW0 hHs h0 h1 h2
      unfold iv
      generalize hI : isB (ents ps) x.name = t at *
      generalize hD : x.drop = d at *
      have HI := Lib.hid hI; have HD := Lib.hid hD; clear hI hD
      cases d with
      | false =>
        have HOK := Lib.hid (show noneB (ents ps) (l.take (k + 1)) = false by rw [HNT.out, HNN.out]; rfl)
        go_wp2
        go_roundw
        case rel => exact ⟨k + 1, by omega, by go_num, bb, HOK.out⟩
        case measure => simp [intOf]; omega
      | true =>
        cases t with
        | true =>
          have HOK := Lib.hid (show noneB (ents ps) (l.take (k + 1)) = false by rw [HNT.out, HNN.out]; rfl)
          go_wp2
          go_roundw
          case rel => exact ⟨k + 1, by omega, by go_num, bb, HOK.out⟩
          case measure => simp [intOf]; omega
        | false =>
          have HOK := Lib.hid (show noneB (ents ps) l = true from noneB_of_take (k := k + 1) (by rw [HNT.out]; simp))
          go_wp2
          exact HR.out _ _ _ _ _ _ _ _ _ _ _ _ _ _ _ _ _ _ _ _ _ w1 bb HOK.out
    · obtain rfl : k = l.length := by omega
      have hge : (l.length : Int) ≤ (l.length : Int) := Int.le_refl _
      have HOK := Lib.hid (show noneB (ents ps) l = false by have := HNN.out; rwa [List.take_length] at this)
      go_wp2
      exact HE.out _ _ _ _ _ _ _ _ _ _ _ _ _ _ _ _ _ _ _ _ _ wr hb HOK.out
end Go.Proofs.Ytcgapfmdpchemaa
