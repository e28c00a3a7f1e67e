/- The end of Do: the directory and the pages are written. -/
import Derived.Test.YtcgapfmdpchemaaDoE
namespace Go.Proofs.Ytcgapfmdpchemaa
open Go.RowKit
/-- all that Do writes: the pages, and behind them the head -/
def doWr (C : Cn) (s : WS) (index : List Nat) (B : List UInt8) : Cn × Bool :=
  if (wrAll C ((s.places ++ index).zip (s.pgs ++ chunksB B))).2 then
    wrAll (wrAll C ((s.places ++ index).zip (s.pgs ++ chunksB B))).1 [(1 - (newestTo (wrAll C ((s.places ++ index).zip (s.pgs ++ chunksB B))).1 2).2.1, headB ((newestTo (wrAll C ((s.places ++ index).zip (s.pgs ++ chunksB B))).1 2).2.2 + 1) B.length index)]
  else wrAll C ((s.places ++ index).zip (s.pgs ++ chunksB B))
/-- nothing below n0 has turned but three blocks -/
structure Keep3 (n0 a b c : Nat) (w w' : World) : Prop where
  os : w'.os = w.os
  tape : w'.tape = w.tape
  output : w'.output = w.output
  size : w.heap.size ≤ w'.heap.size
  block : ∀ k, k < n0 → k ≠ a → k ≠ b → k ≠ c → w'.heap[k]? = w.heap[k]?
theorem Keep3.of {n0 a b c : Nat} {x y z : World} (h : Below n0 x y) (k : Only3 a b c y z) (hn : n0 ≤ y.heap.size) : Keep3 n0 a b c x z :=
  ⟨k.os.trans h.os, k.tape.trans h.tape, k.output.trans h.output, Nat.le_trans h.size k.size, fun i hi h1 h2 h3 => (k.block i (by omega) h1 h2 h3).trans (h.block i hi)⟩
def DLe (be : Nat) : List Deferred := [{ target := .fn (.func 41) #[.pointer (some ⟨be, 0, none⟩)], args := #[] }]
theorem place_le (C : Cn) : (newestTo C 2).2.1 ≤ 1 := by
  have h1 : (newestTo C 1).2.1 ≤ 1 := by
    unfold newestTo
    by_cases h : (newestTo C 0).2.2 < headNum C 0 ∧ headNum C 0 = endNum C 0
    · rw [if_pos h]; exact Nat.zero_le _
    · rw [if_neg h]; exact Nat.zero_le _
  rw [newestTo]
  by_cases h : (newestTo C 1).2.2 < headNum C 1 ∧ headNum C 1 = endNum C 1
  · rw [if_pos h]; exact Nat.le_refl 1
  · rw [if_neg h]; exact h1
theorem IntsLow.only3 {base bd bp bm : Nat} {w w' : World} {C : Cn} {sl : Value} {ns : List Nat} (h : IntsLow base w sl ns) (hD : DiskAt w bd bp bm C) (ho : Only3 bd bp bm w w') : IntsLow base w' sl ns :=
  h.kept fun b cs fr _ hrow => ho.block b (Array.getElem?_eq_some_iff.1 hrow).1 (by rintro rfl; rw [hD.d] at hrow; simp at hrow) (by rintro rfl; rw [hD.p] at hrow; simp at hrow) (by rintro rfl; obtain ⟨es, ck, hm, _⟩ := hD.m; rw [hm] at hrow; cases hrow)
set_option maxRecDepth 1000000 in
set_option maxHeartbeats 4000000 in
theorem do_tail (w : World) (n0 base be bw bs bd bp bm F : Nat) (v5 vf x0e : Value) (ps : List (DE × Value)) (s : WS) (C : Cn)
    (hS : s.Ok C.n F 24900) (hF : F ≤ 4096) (hps : ents ps = s.es) (hrow : EntRow w n0 v5 ps) (hW : WorkAt w base bw vf s.free s.pgs s.places)
    (hbe : w.heap[be]? = some (.cells #[x0e] 29 (0, 0))) (hnbe : n0 ≤ be) (_hbeb : be < base) (hnbw : n0 ≤ bw) (hnbase : n0 ≤ base) (hnw : n0 ≤ w.heap.size)
    (hD : DiskAt w bd bp bm C) (hs : StoreAt w bs bd) (hdn : bd < n0 ∧ bp < n0 ∧ bm < n0) (hbsn : bs < n0) (hfb : C.fuse ≤ 9223372036854775807)
    (hchg : (newestTo (wrAll C ((s.places ++ s.free.take (parts (enc s.es).length)).zip (s.pgs ++ chunksB (enc s.es)))).1 2).2.2 + 1 < 4294967296)
    (Q : Exit → Act → World → Prop) (x1 x2 x3 x6 x8 x9 x10 x11 x12 x13 x14 x15 x16 x17 x18 x19 x20 x21 x22 x23 x24 x25 x26 x27 x28 x29 x30 x31 x32 x33 x34 x35 x36 x37 x38 x39 x40 x41 x42 x43 x44 x45 x46 x47 x48 x49 x50 x51 x52 x53 x54 x55 x56 x57 x58 x59 x60 x61 x62 x63 x64 x65 x66 x67 x68 x69 x70 x71 x72 x73 x74 x75 x76 x77 x78 x79 x80 x81 x82 x83 x84 x85 x86 x87 x88 x89 x90 x91 x92 x93 x94 x95 x96 x97 x98 x99 x100 x101 x102 x103 x104 x105 x106 x107 x108 x109 x110 x111 x112 x113 x114 x115 x116 x117 x118 x119 x120 x121 x122 x123 x124 x125 x126 x127 x128 x129 x130 x131 x132 x133 x134 x135 x136 x137 x138 x139 x140 x141 x142 x143 x144 x145 x146 x147 x148 x149 x150 x151 x152 x153 x154 x155 x156 x157 x158 x159 x160 x161 x162 x163 x164 x165 x166 x167 x168 x169 x170 x171 x172 x173 x174 x175 x176 x177 x178 x179 x180 : Value)
    (hfullQ : ∀ (y0 y1 y2 y3 y5 y6 y7 y8 y9 y10 y11 y12 y13 y14 y15 y16 y17 y18 y19 y20 y21 y22 y23 y24 y25 y26 y27 y28 y29 y30 y31 y32 y33 y34 y35 y36 y37 y38 y39 y40 y41 y42 y43 y44 y45 y46 y47 y48 y49 y50 y51 y52 y53 y54 y55 y56 y57 y58 y59 y60 y61 y62 y63 y64 y65 y66 y67 y68 y69 y70 y71 y72 y73 y74 y75 y76 y77 y78 y79 y80 y81 y82 y83 y84 y85 y86 y87 y88 y89 y90 y91 y92 y93 y94 y95 y96 y97 y98 y99 y100 y101 y102 y103 y104 y105 y106 y107 y108 y109 y110 y111 y112 y113 y114 y115 y116 y117 y118 y119 y120 y121 y122 y123 y124 y125 y126 y127 y128 y129 y130 y131 y132 y133 y134 y135 y136 y137 y138 y139 y140 y141 y142 y143 y144 y145 y146 y147 y148 y149 y150 y151 y152 y153 y154 y155 y156 y157 y158 y159 y160 y161 y162 y163 y164 y165 y166 y167 y168 y169 y170 y171 y172 y173 y174 y175 y176 y177 y178 y179 y180 : Value) (w' : World), Below n0 w w' → (s.free.length < parts (enc s.es).length ∨ 100 < parts (enc s.es).length) → w'.heap[be]? = some (.cells #[x0e] 29 (0, 0)) → Q .ret ⟨(List.toArray (y0 :: y1 :: y2 :: y3 :: .pointer (some ⟨be, 0, none⟩) :: y5 :: y6 :: y7 :: y8 :: y9 :: y10 :: y11 :: y12 :: y13 :: y14 :: y15 :: y16 :: y17 :: y18 :: y19 :: y20 :: y21 :: y22 :: y23 :: y24 :: y25 :: y26 :: y27 :: y28 :: y29 :: y30 :: y31 :: y32 :: y33 :: y34 :: y35 :: y36 :: y37 :: y38 :: y39 :: y40 :: y41 :: y42 :: y43 :: y44 :: y45 :: y46 :: y47 :: y48 :: y49 :: y50 :: y51 :: y52 :: y53 :: y54 :: y55 :: y56 :: y57 :: y58 :: y59 :: y60 :: y61 :: y62 :: y63 :: y64 :: y65 :: y66 :: y67 :: y68 :: y69 :: y70 :: y71 :: y72 :: y73 :: y74 :: y75 :: y76 :: y77 :: y78 :: y79 :: y80 :: y81 :: y82 :: y83 :: y84 :: y85 :: y86 :: y87 :: y88 :: y89 :: y90 :: y91 :: y92 :: y93 :: y94 :: y95 :: y96 :: y97 :: y98 :: y99 :: y100 :: y101 :: y102 :: y103 :: y104 :: y105 :: y106 :: y107 :: y108 :: y109 :: y110 :: y111 :: y112 :: y113 :: y114 :: y115 :: y116 :: y117 :: y118 :: y119 :: y120 :: y121 :: y122 :: y123 :: y124 :: y125 :: y126 :: y127 :: y128 :: y129 :: y130 :: y131 :: y132 :: y133 :: y134 :: y135 :: y136 :: y137 :: y138 :: y139 :: y140 :: y141 :: y142 :: y143 :: y144 :: y145 :: y146 :: y147 :: y148 :: y149 :: y150 :: y151 :: y152 :: y153 :: y154 :: y155 :: y156 :: y157 :: y158 :: y159 :: y160 :: y161 :: y162 :: y163 :: y164 :: y165 :: y166 :: y167 :: y168 :: y169 :: y170 :: y171 :: y172 :: y173 :: y174 :: y175 :: y176 :: y177 :: y178 :: y179 :: y180 :: [])), []⟩ (w'.setCell ⟨be, 0, none⟩ (.int .i64 5)))
    (hpan : ∀ a C' w', parts (enc s.es).length ≤ s.free.length → parts (enc s.es).length ≤ 100 → a.tmps.getD 4 undef = .pointer (some ⟨be, 0, none⟩) → a.defers = DLe be → doWr C s (s.free.take (parts (enc s.es).length)) (enc s.es) = (C', false) → DiskAt w' bd bp bm C' → Keep3 n0 bd bp bm w w' → w'.heap[be]? = some (.cells #[x0e] 29 (0, 0)) → Q (.panic cutC) a w')
    (hok : ∀ (y0 y1 y2 y3 y5 y6 y7 y8 y9 y10 y11 y12 y13 y14 y15 y16 y17 y18 y19 y20 y21 y22 y23 y24 y25 y26 y27 y28 y29 y30 y31 y32 y33 y34 y35 y36 y37 y38 y39 y40 y41 y42 y43 y44 y45 y46 y47 y48 y49 y50 y51 y52 y53 y54 y55 y56 y57 y58 y59 y60 y61 y62 y63 y64 y65 y66 y67 y68 y69 y70 y71 y72 y73 y74 y75 y76 y77 y78 y79 y80 y81 y82 y83 y84 y85 y86 y87 y88 y89 y90 y91 y92 y93 y94 y95 y96 y97 y98 y99 y100 y101 y102 y103 y104 y105 y106 y107 y108 y109 y110 y111 y112 y113 y114 y115 y116 y117 y118 y119 y120 y121 y122 y123 y124 y125 y126 y127 y128 y129 y130 y131 y132 y133 y134 y135 y136 y137 y138 y139 y140 y141 y142 y143 y144 y145 y146 y147 y148 y149 y150 y151 y152 y153 y154 y155 y156 y157 y158 y159 y160 y161 y162 y163 y164 y165 y166 y167 y168 y169 y170 y171 y172 y173 y174 y175 y176 y177 y178 y179 y180 : Value) (C' : Cn) (w' : World), parts (enc s.es).length ≤ s.free.length → parts (enc s.es).length ≤ 100 → doWr C s (s.free.take (parts (enc s.es).length)) (enc s.es) = (C', true) → DiskAt w' bd bp bm C' → Keep3 n0 bd bp bm w w' → w'.heap[be]? = some (.cells #[x0e] 29 (0, 0)) → Q .ret ⟨(List.toArray (y0 :: y1 :: y2 :: y3 :: .pointer (some ⟨be, 0, none⟩) :: y5 :: y6 :: y7 :: y8 :: y9 :: y10 :: y11 :: y12 :: y13 :: y14 :: y15 :: y16 :: y17 :: y18 :: y19 :: y20 :: y21 :: y22 :: y23 :: y24 :: y25 :: y26 :: y27 :: y28 :: y29 :: y30 :: y31 :: y32 :: y33 :: y34 :: y35 :: y36 :: y37 :: y38 :: y39 :: y40 :: y41 :: y42 :: y43 :: y44 :: y45 :: y46 :: y47 :: y48 :: y49 :: y50 :: y51 :: y52 :: y53 :: y54 :: y55 :: y56 :: y57 :: y58 :: y59 :: y60 :: y61 :: y62 :: y63 :: y64 :: y65 :: y66 :: y67 :: y68 :: y69 :: y70 :: y71 :: y72 :: y73 :: y74 :: y75 :: y76 :: y77 :: y78 :: y79 :: y80 :: y81 :: y82 :: y83 :: y84 :: y85 :: y86 :: y87 :: y88 :: y89 :: y90 :: y91 :: y92 :: y93 :: y94 :: y95 :: y96 :: y97 :: y98 :: y99 :: y100 :: y101 :: y102 :: y103 :: y104 :: y105 :: y106 :: y107 :: y108 :: y109 :: y110 :: y111 :: y112 :: y113 :: y114 :: y115 :: y116 :: y117 :: y118 :: y119 :: y120 :: y121 :: y122 :: y123 :: y124 :: y125 :: y126 :: y127 :: y128 :: y129 :: y130 :: y131 :: y132 :: y133 :: y134 :: y135 :: y136 :: y137 :: y138 :: y139 :: y140 :: y141 :: y142 :: y143 :: y144 :: y145 :: y146 :: y147 :: y148 :: y149 :: y150 :: y151 :: y152 :: y153 :: y154 :: y155 :: y156 :: y157 :: y158 :: y159 :: y160 :: y161 :: y162 :: y163 :: y164 :: y165 :: y166 :: y167 :: y168 :: y169 :: y170 :: y171 :: y172 :: y173 :: y174 :: y175 :: y176 :: y177 :: y178 :: y179 :: y180 :: [])), DLe be⟩ (w'.setCell ⟨be, 0, none⟩ (.int .i64 0))) :
    Code.wp Try.prog doTail Q ⟨(List.toArray (.pointer (some ⟨bs, 0, none⟩) :: x1 :: x2 :: x3 :: .pointer (some ⟨be, 0, none⟩) :: v5 :: x6 :: .pointer (some ⟨bw, 0, none⟩) :: x8 :: x9 :: x10 :: x11 :: x12 :: x13 :: x14 :: x15 :: x16 :: x17 :: x18 :: x19 :: x20 :: x21 :: x22 :: x23 :: x24 :: x25 :: x26 :: x27 :: x28 :: x29 :: x30 :: x31 :: x32 :: x33 :: x34 :: x35 :: x36 :: x37 :: x38 :: x39 :: x40 :: x41 :: x42 :: x43 :: x44 :: x45 :: x46 :: x47 :: x48 :: x49 :: x50 :: x51 :: x52 :: x53 :: x54 :: x55 :: x56 :: x57 :: x58 :: x59 :: x60 :: x61 :: x62 :: x63 :: x64 :: x65 :: x66 :: x67 :: x68 :: x69 :: x70 :: x71 :: x72 :: x73 :: x74 :: x75 :: x76 :: x77 :: x78 :: x79 :: x80 :: x81 :: x82 :: x83 :: x84 :: x85 :: x86 :: x87 :: x88 :: x89 :: x90 :: x91 :: x92 :: x93 :: x94 :: x95 :: x96 :: x97 :: x98 :: x99 :: x100 :: x101 :: x102 :: x103 :: x104 :: x105 :: x106 :: x107 :: x108 :: x109 :: x110 :: x111 :: x112 :: x113 :: x114 :: x115 :: x116 :: x117 :: x118 :: x119 :: x120 :: x121 :: x122 :: x123 :: x124 :: x125 :: x126 :: x127 :: x128 :: x129 :: x130 :: x131 :: x132 :: x133 :: x134 :: x135 :: x136 :: x137 :: x138 :: x139 :: x140 :: x141 :: x142 :: x143 :: x144 :: x145 :: x146 :: x147 :: x148 :: x149 :: x150 :: x151 :: x152 :: x153 :: x154 :: x155 :: x156 :: x157 :: x158 :: x159 :: x160 :: x161 :: x162 :: x163 :: x164 :: x165 :: x166 :: x167 :: x168 :: x169 :: x170 :: x171 :: x172 :: x173 :: x174 :: x175 :: x176 :: x177 :: x178 :: x179 :: x180 :: [])), []⟩ w := by
  have HFULL := Lib.hid hfullQ; have HPAN := Lib.hid hpan; have HOK := Lib.hid hok; clear hfullQ hpan hok
  have HCHG := Lib.hid hchg; clear hchg
  have hmf : ∀ (fn : Fn) (first cap : Array Value) (w : World), (Instr.makeFunc fn first cap).run Try.prog w = .ok (.func fn first cap) w := fun _ _ _ _ => rfl
  have hmany : ps.length ≤ 24900 := by rw [← ents_length, hps]; exact hS.many
  have hfit : ∀ p ∈ ps, p.1.fits := fun p hp => hS.fit p.1 (by rw [← hps]; exact List.mem_map.2 ⟨p, hp, rfl⟩)
  have hencl : (enc (ps.map (·.1))).length ≤ 900000000 := by
    have := enc_le (ps.map (·.1)) (fun e he => by obtain ⟨p, hp, rfl⟩ := List.mem_map.1 he; exact hfit p hp)
    rw [List.length_map] at this; omega
  have hby := bytes_any w v5 ps hrow.rd hfit hencl
  have hpe : ps.map (·.1) = s.es := hps
  rw [hpe] at hby hencl
  have HBY := Lib.hid hby; clear hby hpe hfit
  have HS := Lib.hid hs; have HD := Lib.hid hD; clear hs hD
  conv => arg 2; whnf
  go_wp2_with fail
  refine HBY.out.mono ?_
  rintro e w1 ⟨v20, rfl, o20, b1⟩
  have hby1 := BytesAt.own o20
  have hW1 := hW.below b1 (Nat.le_refl _)
  have hpl : s.places.length ≤ 4096 := by have := hS.free_; omega
  have hpgl : s.pgs.length ≤ 4096 := by have := hS.len; omega
  have hfrl : s.free.length ≤ 4096 := by have := hS.free_; omega
  have HT := Lib.hid (take_any w1 base bw vf v20 s.free s.pgs s.places (enc s.es) hW1 hby1 hencl (by omega) (by omega) (by omega))
  obtain ⟨Ab, cb, rfl⟩ := own_slice o20
  have hbe1 := (b1.block be (Array.getElem?_eq_some_iff.1 hbe).1).trans hbe
  have hD1 := HD.out.below b1 (Nat.le_refl _)
  have hs1 := HS.out.below b1 (Nat.le_refl _)
  have HBE1 := Lib.hid hbe1; have HW1 := Lib.hid hW1; have HB1 := Lib.hid b1; have HD1 := Lib.hid hD1; have HS1 := Lib.hid hs1
  have hsz1 := b1.size
  clear hbe1 hW1 b1 hby1 o20 hbe hW hrow hD1 hs1
  go_wp2_with fail
  refine HT.out.mono ?_
  rintro e w2 (⟨hfull, rfl, b2⟩ | ⟨hfitn, vi, vf', rfl, tk2, hvi, hW2⟩)
  · have hbe2 := (b2.block be (Array.getElem?_eq_some_iff.1 HBE1.out).1).trans HBE1.out
    have cbe : w2.cell? ⟨be, 0, none⟩ = some x0e := by rw [cell_of_row _ _ _ _ _ _ hbe2]; rfl
    have fbe : w2.frozen? ⟨be, 0, none⟩ = false := frozen_of_row _ _ _ _ _ hbe2
    have HB2 := Lib.hid ((HB1.out.mono hnw).trans (b2.mono (by omega)))
    have HBE2 := Lib.hid hbe2
    clear hbe2 b2
    go_wp2
    exact HFULL.out _ _ _ _ _ _ _ _ _ _ _ _ _ _ _ _ _ _ _ _ _ _ _ _ _ _ _ _ _ _ _ _ _ _ _ _ _ _ _ _ _ _ _ _ _ _ _ _ _ _ _ _ _ _ _ _ _ _ _ _ _ _ _ _ _ _ _ _ _ _ _ _ _ _ _ _ _ _ _ _ _ _ _ _ _ _ _ _ _ _ _ _ _ _ _ _ _ _ _ _ _ _ _ _ _ _ _ _ _ _ _ _ _ _ _ _ _ _ _ _ _ _ _ _ _ _ _ _ _ _ _ _ _ _ _ _ _ _ _ _ _ _ _ _ _ _ _ _ _ _ _ _ _ _ _ _ _ _ _ _ _ _ _ _ _ _ _ _ _ _ _ _ _ _ _ _ _ _ _ _ w2 HB2.out (.inl hfull) HBE2.out
  · obtain ⟨cw, hcw⟩ : ∃ cw, w1.heap[bw]? = some (.cells cw 87 (0, 0)) := by obtain ⟨vp, vl', h1, _⟩ := HW1.out.rows; exact ⟨_, h1⟩
    have hbe2 := tk2.row HBE1.out (by rintro rfl; have := HBE1.out; rw [hcw] at this; simp at this) (by decide) (by decide)
    have cbe : w2.cell? ⟨be, 0, none⟩ = some x0e := by rw [cell_of_row _ _ _ _ _ _ hbe2]; rfl
    have fbe : w2.frozen? ⟨be, 0, none⟩ = false := frozen_of_row _ _ _ _ _ hbe2
    obtain ⟨Ai, ci, hviv, -⟩ := id hvi
    have htl : (s.free.take (parts (enc s.es).length)).length = parts (enc s.es).length := by rw [List.length_take]; omega
    rw [htl] at hviv
    subst hviv
    have bb2 := tk2.below hnbw hnbase (by omega)
    have HB2 := Lib.hid ((HB1.out.mono hnw).trans bb2)
    have HFITN := Lib.hid hfitn; have HVI := Lib.hid hvi; have HTL := Lib.hid htl
    clear hfitn hvi htl tk2 hcw
    by_cases h100 : 100 < parts (enc s.es).length
    · have HBE2 := Lib.hid hbe2
      clear hbe2 bb2 hW2
      have h100i : (100 : Int) < (parts (enc s.es).length : Int) := by omega
      go_wp2
      exact HFULL.out _ _ _ _ _ _ _ _ _ _ _ _ _ _ _ _ _ _ _ _ _ _ _ _ _ _ _ _ _ _ _ _ _ _ _ _ _ _ _ _ _ _ _ _ _ _ _ _ _ _ _ _ _ _ _ _ _ _ _ _ _ _ _ _ _ _ _ _ _ _ _ _ _ _ _ _ _ _ _ _ _ _ _ _ _ _ _ _ _ _ _ _ _ _ _ _ _ _ _ _ _ _ _ _ _ _ _ _ _ _ _ _ _ _ _ _ _ _ _ _ _ _ _ _ _ _ _ _ _ _ _ _ _ _ _ _ _ _ _ _ _ _ _ _ _ _ _ _ _ _ _ _ _ _ _ _ _ _ _ _ _ _ _ _ _ _ _ _ _ _ _ _ _ _ _ _ _ _ _ _ w2 HB2.out (.inr h100) HBE2.out
    · have h100i : ¬ (100 : Int) < (parts (enc s.es).length : Int) := by omega
      obtain ⟨vp, vl, hrw, hop, hol⟩ := hW2.rows
      obtain ⟨c0, c1, c2⟩ := cells3 hrw
      obtain ⟨Ap2, cp2, rfl⟩ := own_slice hop
      obtain ⟨Al2, cl2, rfl⟩ := own_slice hol
      have hD2 : DiskAt w2 bd bp bm C := by
        have := HD1.out
        exact this.kept (bb2.block _ hdn.1) (bb2.block _ hdn.2.1) (bb2.block _ hdn.2.2)
      have hs2 : StoreAt w2 bs bd := (bb2.cell (p := ⟨bs, 0, none⟩) hbsn).trans HS1.out
      have hlens : (s.pgs ++ chunksB (enc s.es)).length = (s.places ++ s.free.take (parts (enc s.es).length)).length := by rw [List.length_append, List.length_append, chunksB_length, HTL.out, hS.len]
      have hplc : ∀ q ∈ s.places ++ s.free.take (parts (enc s.es).length), q < C.n := fun q hq => by
        rcases List.mem_append.1 hq with h | h
        · exact hS.plow q h
        · exact hS.low q (List.mem_of_mem_take h)
      have HLENS := Lib.hid hlens; have HPLC := Lib.hid hplc; have HLONG := Lib.hid hW2.long; have HRW := Lib.hid hrw; have HOP := Lib.hid hop; have HOL := Lib.hid hol; have HD2 := Lib.hid hD2; have HS2 := Lib.hid hs2; have HBE2 := Lib.hid hbe2
      have hmany2 : (s.pgs ++ chunksB (enc s.es)).length ≤ 100000 := by rw [List.length_append, chunksB_length]; omega
      have HMANY2 := Lib.hid hmany2
      clear hbe2 hW2 bb2 hD2 hs2 hlens hplc hrw hop hol c0 c2 hmany2
      generalize hPG : s.pgs ++ chunksB (enc s.es) = PG at *
      generalize hPL : s.places ++ s.free.take (parts (enc s.es).length) = PL at *
      have HPG := Lib.hid hPG; have HPL := Lib.hid hPL; clear hPG hPL
      go_wp2_with fail
      refine do_loop6 w2 n0 base be bw bs bd bp bm vf' Ap2 Al2 cp2 cl2 C _ _ HD2.out hfb HS2.out HLENS.out HLONG.out HPLC.out HMANY2.out hdn hnbw hnbase HRW.out HOP.out HOL.out _ (DLe be) _ _ _ _ _ _ _ _ _ _ _ _ _ _ _ _ _ _ _ _ _ _ _ _ _ _ _ _ _ _ _ _ _ _ _ _ _ _ _ _ _ _ _ _ _ _ _ _ _ _ _ _ _ _ _ _ _ _ _ _ _ _ _ _ _ _ _ _ _ _ _ _ _ _ _ _ _ _ _ _ _ _ _ _ _ _ _ _ _ _ _ _ _ _ _ _ _ _ _ _ _ _ _ _ _ _ _ _ _ _ _ _ _ _ _ _ _ _ _ _ _ _ _ _ _ _ _ _ _ _ _ _ _ _ _ _ _ _ _ _ _ _ _ _ _ _ _ _ _ _ _ _ _ _ _ _ _ _ _ _ _ _ _ _ _ _ _ _ _ _ _ _ _ _ _ ?exit6 ?pan6
      case pan6 =>
        rintro c a w' ⟨h1, h2, rfl, C', hC', hd', ho'⟩
        have hk3 := Keep3.of HB2.out ho' (by have := HB2.out.size; omega)
        have hdw : doWr C s (s.free.take (parts (enc s.es).length)) (enc s.es) = (C', false) := by
          unfold doWr; rw [HPG.out, HPL.out, hC']; rfl
        have hbe' : w'.heap[be]? = some (.cells #[x0e] 29 (0, 0)) := (ho'.block be (Array.getElem?_eq_some_iff.1 HBE2.out).1 (by omega) (by omega) (by omega)).trans HBE2.out
        exact HPAN.out a C' w' HFITN.out (by omega) h1 h2 hdw hd' hk3 hbe'
      case exit6 =>
        intro y22 y23 y142 y143 y144 y145 y146 y147 y148 y149 y150 y151 y152 y153 y154 y155 y156 y157 y158 C1 w3 hC1 hd3 ho3
        have hap := HS2.out.apart HD2.out
        have hs3 : w3.cell? ⟨bs, 0, none⟩ = some (.pointer (some ⟨bd, 0, none⟩)) := (World.cell?_of_block (ho3.block bs (block_lt_of_cell HS2.out) hap.1 hap.2.1 hap.2.2)).trans HS2.out
        have hvi3 := HVI.out.only3 HD2.out ho3
        have hbe3 : w3.heap[be]? = some (.cells #[x0e] 29 (0, 0)) := (ho3.block be (Array.getElem?_eq_some_iff.1 HBE2.out).1 (by omega) (by omega) (by omega)).trans HBE2.out
        have hk3 := Keep3.of HB2.out ho3 (by have := HB2.out.size; omega)
        have hdw := doWr C s (s.free.take (parts (enc s.es).length)) (enc s.es)
        have hDW : doWr C s (s.free.take (parts (enc s.es).length)) (enc s.es) = wrAll C1 [(1 - (newestTo C1 2).2.1, headB ((newestTo C1 2).2.2 + 1) (enc s.es).length (s.free.take (parts (enc s.es).length)))] := by
          unfold doWr; rw [HPG.out, HPL.out, hC1]; rfl
        have hch : (newestTo C1 2).2.2 + 1 < 4294967296 := by
          have := HCHG.out; rwa [hC1] at this
        have hCn : C1.n = C.n := by have := wrAll_n C (PL.zip PG); rw [hC1] at this; exact this
        have hCf : C1.fuse ≤ 9223372036854775807 := by have := wrAll_fuse C (PL.zip PG) (B := 9223372036854775807) (by decide) hfb; rw [hC1] at this; exact this
        have hpl1 := place_le C1
        have hnp := newest_any w3 hd3
        have hnl := newestTo_length hd3 (Nat.le_refl 2)
        have htwo := hd3.two
        have hilow : ∀ q ∈ s.free.take (parts (enc s.es).length), q < 65536 := fun q hq => by
          have := hS.low q (List.mem_of_mem_take hq)
          have := hd3.small
          omega
        generalize hNP : (newestTo C1 2).1 = P1 at *
        generalize hPLC : (newestTo C1 2).2.1 = pl at *
        generalize hCHC : (newestTo C1 2).2.2 = ch at *
        have HDW := Lib.hid hDW; have HVI3 := Lib.hid hvi3; have HBE3 := Lib.hid hbe3; have HD3 := Lib.hid hd3; have HNP := Lib.hid hnp; have HNL := Lib.hid hnl; have HCN := Lib.hid hCn; have HB3 := Lib.hid (show Below n0 w w2 from HB2.out); have HO3 := Lib.hid ho3; have HIL := Lib.hid hilow
        clear hDW hvi3 hbe3 hd3 hnp hnl hCn ho3 hNP hPLC hCHC hC1 hdw hilow hk3 cbe fbe c1
        have hz256 : (bvs zp).toArray.size = 256 := by simp [bvs, zp_length]
        have HZ2 := Lib.hid hz256; clear hz256
        go_wp2_with fail
        refine HNP.out.mono ?_
        rintro e w4 ⟨rfl, b4⟩
        unfold iv
        have hs4 : w4.cell? ⟨bs, 0, none⟩ = some (.pointer (some ⟨bd, 0, none⟩)) := (b4.cell (p := ⟨bs, 0, none⟩) (block_lt_of_cell hs3)).trans hs3
        have B34 := Lib.hid b4; clear b4 hs3
        have tok2 : True := trivial
        go_wp2_with (have _t := tok2; refine al81n rfl rfl ?_; clear tok2)
        intro w5 h5 hs5 b5
        have H5 := Lib.hid h5; clear h5
        go_wp2_with (refine st81 rfl _ _ rfl rfl rfl HNL.out H5.out HZ2.out ?_)
        intro w6 h6 o6
        have b36 : Below w3.heap.size w3 w6 := B34.out.trans ((b5.trans (o6.below (Nat.le_refl _))).mono B34.out.size)
        have hs6 : w6.cell? ⟨bs, 0, none⟩ = some (.pointer (some ⟨bd, 0, none⟩)) := ((b5.trans (o6.below (Nat.le_refl _))).cell (p := ⟨bs, 0, none⟩) (block_lt_of_cell hs4)).trans hs4
        have B36 := Lib.hid b36; clear b36 b5 o6 h6 hs4 H5
        go_wp2_with fail
        refine wp_panics (PF be bd bp bm (DLe be) C1 [(1 - pl, headB (ch + 1) (enc s.es).length (s.free.take (parts (enc s.es).length)))] w6) (fun c a w' h => ?_) ?_
        · obtain ⟨h1, h2, rfl, C', hC', hd', ho'⟩ := h
          have hO : Only3 bd bp bm w2 w' := (HO3.out.trans (Only3.of_below B36.out)).trans ho'
          have hbe' : w'.heap[be]? = some (.cells #[x0e] 29 (0, 0)) := (hO.block be (Array.getElem?_eq_some_iff.1 HBE2.out).1 (by omega) (by omega) (by omega)).trans HBE2.out
          exact HPAN.out a C' w' HFITN.out (by omega) h1 h2 (HDW.out.trans hC') hd' (Keep3.of HB2.out hO (by have := HB2.out.size; omega)) hbe'
        refine wp_region_held (S := fun W => W.cell? ⟨bs, 0, none⟩ = some (.pointer (some ⟨bd, 0, none⟩))) (by kernel_rfl) ?_
        have hwr1 : IntKind.i64.wrap (1 - (pl : Int)) = 1 - (pl : Int) := by rw [IntKind.wrap_i64]; omega
        have hwr2 : IntKind.i64.wrap ((ch : Int) + 1) = (ch : Int) + 1 := by rw [IntKind.wrap_i64]; omega
        have HS0 : Hid (w6.drew.cell? ⟨bs, 0, none⟩ = some (.pointer (some ⟨bd, 0, none⟩))) := Lib.hid hs6
        refine wpAnyH_take (i := 0) (v := .pointer (some ⟨bs, 0, none⟩)) rfl (by kernel_rfl) (by kernel_rfl) (by kernel_rfl) (fun _ _ _ h => pf_put (d := 168) (by decide) h) (.inl ⟨by rfl, fun W hS => by kernel_rfl⟩) HS0.out ?_
        refine wpAnyH_take (i := 1) (v := .pointer (some ⟨bs, 0, none⟩)) rfl (by kernel_rfl) (by kernel_rfl) (by kernel_rfl) (fun _ _ _ h => pf_put (d := 169) (by decide) h) (.inl ⟨by rfl, fun W hS => by kernel_rfl⟩) HS0.out ?_
        refine wpAnyH_take (i := 2) (v := .pointer (some ⟨bs, 0, none⟩)) rfl (by kernel_rfl) (by kernel_rfl) (by kernel_rfl) (fun _ _ _ h => pf_put (d := 170) (by decide) h) (.inl ⟨by rfl, fun W hS => by kernel_rfl⟩) HS0.out ?_
        refine wpAnyH_take (i := 3) (v := .pointer (some ⟨bd, 0, none⟩)) rfl (by kernel_rfl) (by kernel_rfl) (by kernel_rfl) (fun _ _ _ h => pf_put (d := 171) (by decide) h) (.inl ⟨by rfl, fun W hS => exec_load (ad := ⟨bs, 0, none⟩) rfl (by kernel_rfl) (ld_cell nag28 hS)⟩) HS0.out ?_
        refine wpAnyH_take (i := 4) (v := .int .i64 (pl : Int)) rfl (by kernel_rfl) (by kernel_rfl) (by kernel_rfl) (fun _ _ _ h => pf_put (d := 172) (by decide) h) (.inl ⟨by rfl, fun W hS => by kernel_rfl⟩) HS0.out ?_
        refine wpAnyH_take (i := 5) (v := .int .i64 (1 - (pl : Int))) rfl (by kernel_rfl) (by kernel_rfl) (by kernel_rfl) (fun _ _ _ h => pf_put (d := 173) (by decide) h) (.inl ⟨by rfl, fun W hS => by go_simp⟩) HS0.out ?_
        refine wpAnyH_take (i := 6) (v := .int .i64 (ch : Int)) rfl (by kernel_rfl) (by kernel_rfl) (by kernel_rfl) (fun _ _ _ h => pf_put (d := 174) (by decide) h) (.inl ⟨by rfl, fun W hS => by kernel_rfl⟩) HS0.out ?_
        refine wpAnyH_take (i := 7) (v := .int .i64 ((ch : Int) + 1)) rfl (by kernel_rfl) (by kernel_rfl) (by kernel_rfl) (fun _ _ _ h => pf_put (d := 175) (by decide) h) (.inl ⟨by rfl, fun W hS => by go_simp⟩) HS0.out ?_
        refine wpAnyH_take (i := 8) (v := .slice Ab (enc s.es).length cb) rfl (by kernel_rfl) (by kernel_rfl) (by kernel_rfl) (fun _ _ _ h => pf_put (d := 176) (by decide) h) (.inl ⟨by rfl, fun W hS => by kernel_rfl⟩) HS0.out ?_
        refine wpAnyH_take (i := 9) (v := .int .i64 ((enc s.es).length : Int)) rfl (by kernel_rfl) (by kernel_rfl) (by kernel_rfl) (fun _ _ _ h => pf_put (d := 177) (by decide) h) (.inl ⟨by rfl, fun W hS => by go_simp⟩) HS0.out ?_
        refine wpAnyH_take (i := 10) (v := .slice Ai (parts (enc s.es).length) ci) rfl (by kernel_rfl) (by kernel_rfl) (by kernel_rfl) (fun _ _ _ h => pf_put (d := 178) (by decide) h) (.inl ⟨by rfl, fun W hS => by kernel_rfl⟩) HS0.out ?_
        refine wpAnyH_all (rs := [11]) (by kernel_rfl) (by simp) ?_
        intro i hi
        obtain rfl : i = 11 := by simpa using hi
        refine op_at rfl rfl ?_
        have hilen : (s.free.take (parts (enc s.es).length)).length ≤ 100 := by rw [HTL.out]; omega
        have hvi6 := (HVI3.out.below B36.out (Nat.le_refl _)).at_.rd
        rw [HTL.out] at hvi6
        have hhd := head_any (ch + 1) (enc s.es).length hch (by omega) (s.free.take (parts (enc s.es).length)) hilen HIL.out _ w6.drew (by rw [HTL.out]; exact Rd.drew hvi6)
        rw [show ((ch + 1 : Nat) : Int) = (ch : Int) + 1 by omega] at hhd
        have HHD := Lib.hid hhd; clear hhd hvi6
        go_simp
        refine HHD.out.mono ?_
        rintro e w7 ⟨rfl, b7⟩
        have b67 : Below w6.heap.size w6 w7 := (Below.refl _ w6).drew.trans b7
        have hs7 : w7.cell? ⟨bs, 0, none⟩ = some (.pointer (some ⟨bd, 0, none⟩)) := (b67.cell (p := ⟨bs, 0, none⟩) (block_lt_of_cell hs6)).trans hs6
        refine ⟨hs7, ?_⟩
        have hd7 : DiskAt w7 bd bp bm C1 := (HD3.out.below B36.out (Nat.le_refl _)).below b67 (Nat.le_refl _)
        have HO7 := Lib.hid ((HO3.out.trans (Only3.of_below B36.out)).trans (Only3.of_below b67))
        have HO67 := Lib.hid (Only3.of_below (a := bd) (b := bp) (c := bm) b67)
        have hwrt := write_any w7 hd7 hCf (1 - pl) (by omega) (headB (ch + 1) (enc s.es).length (s.free.take (parts (enc s.es).length))) (headB_length _ _ _ hilen)
        rw [show ((1 - pl : Nat) : Int) = 1 - (pl : Int) by omega] at hwrt
        have HWRT := Lib.hid hwrt; clear hwrt b67 b7 hd7
        generalize hHB : headB (ch + 1) (enc s.es).length (s.free.take (parts (enc s.es).length)) = HB at *
        clear hHB
        refine wpAnyH_all (rs := [12]) (by kernel_rfl) (by simp) ?_
        intro i hi
        obtain rfl : i = 12 := by simpa using hi
        refine op_at rfl rfl ?_
        go_simp
        refine HWRT.out.mono ?_
        rintro e w8 ⟨o8, ⟨hfu, hd8, v8, rfl⟩ | ⟨hf0, hf256, hd8, rfl⟩⟩
        · have hap7 := HS2.out.apart HD2.out
          have hs8 : w8.cell? ⟨bs, 0, none⟩ = some (.pointer (some ⟨bd, 0, none⟩)) := (World.cell?_of_block (o8.block bs (block_lt_of_cell hs7) hap7.1 hap7.2.1 hap7.2.2)).trans hs7
          refine ⟨hs8, ?_⟩
          have hO : Only3 bd bp bm w2 w8 := HO7.out.trans o8
          have hbe8 : w8.heap[be]? = some (.cells #[x0e] 29 (0, 0)) := (hO.block be (Array.getElem?_eq_some_iff.1 HBE2.out).1 (by omega) (by omega) (by omega)).trans HBE2.out
          have hwok : wrAll C1 [(1 - pl, HB)] = (C1.wr (1 - pl) HB 256, true) := by simp only [wrAll]; rw [if_pos hfu]
          have HK := Lib.hid (Keep3.of HB2.out hO (by have := HB2.out.size; omega))
          have HBE8 := Lib.hid hbe8; have HD8 := Lib.hid hd8; have HWK := Lib.hid (HDW.out.trans hwok)
          have cbe8 : w8.cell? ⟨be, 0, none⟩ = some x0e := by rw [cell_of_row _ _ _ _ _ _ hbe8]; rfl
          have fbe8 : w8.frozen? ⟨be, 0, none⟩ = false := frozen_of_row _ _ _ _ _ hbe8
          clear hbe8 hd8 o8 hO hwok
          refine ⟨by kernel_rfl, ?_⟩
          go_wp2
          exact HOK.out _ _ _ _ _ _ _ _ _ _ _ _ _ _ _ _ _ _ _ _ _ _ _ _ _ _ _ _ _ _ _ _ _ _ _ _ _ _ _ _ _ _ _ _ _ _ _ _ _ _ _ _ _ _ _ _ _ _ _ _ _ _ _ _ _ _ _ _ _ _ _ _ _ _ _ _ _ _ _ _ _ _ _ _ _ _ _ _ _ _ _ _ _ _ _ _ _ _ _ _ _ _ _ _ _ _ _ _ _ _ _ _ _ _ _ _ _ _ _ _ _ _ _ _ _ _ _ _ _ _ _ _ _ _ _ _ _ _ _ _ _ _ _ _ _ _ _ _ _ _ _ _ _ _ _ _ _ _ _ _ _ _ _ _ _ _ _ _ _ _ _ _ _ _ _ _ _ _ _ _ _ w8 HFITN.out (by omega) HWK.out HD8.out HK.out HBE8.out
        · refine ⟨by kernel_rfl, rfl, rfl, { C1.wr (1 - pl) HB C1.fuse.toNat with down := true }, ?_, hd8, HO67.out.trans o8⟩
          simp only [wrAll]
          rw [if_neg (by omega)]
end Go.Proofs.Ytcgapfmdpchemaa
