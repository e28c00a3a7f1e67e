/- The fourth loop of Do: the pages are written. -/
import Derived.Test.YtcgapfmdpchemaaDoD
namespace Go.Proofs.Ytcgapfmdpchemaa
open Go.RowKit
/-- pages written one behind the other; false: the power has failed -/
def wrAll (C : Cn) : List (Nat × List UInt8) → Cn × Bool
  | [] => (C, true)
  | x :: r => if C.fuse < 0 ∨ 256 ≤ C.fuse then wrAll (C.wr x.1 x.2 256) r else ({ C.wr x.1 x.2 C.fuse.toNat with down := true }, false)
theorem wrAll_append (C : Cn) (l m : List (Nat × List UInt8)) : wrAll C (l ++ m) = if (wrAll C l).2 then wrAll (wrAll C l).1 m else wrAll C l := by
  induction l generalizing C with
  | nil => simp [wrAll]
  | cons x r ih =>
    simp only [List.cons_append, wrAll]
    split
    · exact ih _
    · simp
theorem wrAll_n (C : Cn) (l : List (Nat × List UInt8)) : (wrAll C l).1.n = C.n := by
  induction l generalizing C with
  | nil => rfl
  | cons x r ih =>
    simp only [wrAll]
    split
    · rw [ih]; rfl
    · rfl
theorem wrAll_fuse (C : Cn) (l : List (Nat × List UInt8)) {B : Int} (hB : 0 ≤ B) (h : C.fuse ≤ B) : (wrAll C l).1.fuse ≤ B := by
  induction l generalizing C with
  | nil => exact h
  | cons x r ih =>
    simp only [wrAll]
    split
    · refine ih _ ?_
      show (if C.fuse < 0 then C.fuse else C.fuse - 256) ≤ B
      split <;> omega
    · show (if C.fuse < 0 then C.fuse else C.fuse - C.fuse.toNat) ≤ B
      split <;> omega
def cutC : List PanicEntry := [{ v := .iface 101 (.agg #[]), recovered := false }]
/-- what is known where the power fails -/
def PF (be bd bp bm : Nat) (DL : List Deferred) (C : Cn) (ops : List (Nat × List UInt8)) (w : World) (c : List PanicEntry) (a : Act) (w' : World) : Prop :=
  a.tmps.getD 4 undef = .pointer (some ⟨be, 0, none⟩) ∧ a.defers = DL ∧ c = cutC ∧ ∃ C', wrAll C ops = (C', false) ∧ DiskAt w' bd bp bm C' ∧ Only3 bd bp bm w w'
theorem pf_put {be bd bp bm : Nat} {DL : List Deferred} {C : Cn} {ops : List (Nat × List UInt8)} {w : World} {c : List PanicEntry} {a : Act} {w' : World} {d : Nat} {v : Value} (hd : d ≠ 4) (h : PF be bd bp bm DL C ops w c (a.put (some d) v) w') : PF be bd bp bm DL C ops w c a w' := by
  obtain ⟨h1, h2, h3⟩ := h
  refine ⟨?_, h2, h3⟩
  rw [← h1]
  simp [Act.put, Array.getD_eq_getD_getElem?, hd]
theorem wp_panics {P : Program} {c : Code} {Q : Exit → Act → World → Prop} {a : Act} {w : World} (R : List PanicEntry → Act → World → Prop) (hp : ∀ c a w, R c a w → Q (.panic c) a w)
    (h : c.wp P (fun e a w => match e with | .panic c => R c a w | .normal => Q .normal a w | .exit i => Q (.exit i) a w | .ret => Q .ret a w | .goto i => Q (.goto i) a w | .outgrown => False) a w) : c.wp P Q a w :=
  Code.wp_mono (fun e a w q => by cases e <;> first | exact hp _ _ _ q | exact q | exact q.elim) h
theorem nag28 (w : World) : (isAgg 28).run Try.prog w = .ok false w := by
  unfold isAgg; rw [Sem.run_bind, run_underlying Try.underlying28 w]; rfl
theorem nag3 (w : World) : (isAgg 3).run Try.prog w = .ok false w := by
  unfold isAgg; rw [Sem.run_bind, run_underlying Try.underlying3 w]; rfl
theorem ld_page {W : World} {g : Nat} {P : List UInt8} {t : TypeId} {fr : Nat × Nat} (hg : W.heap[g]? = some (.cells (bvs P).toArray t fr)) (hP : P.length = 256) : (loadVar 81 ⟨g, 0, none⟩).run Try.prog W = .ok (pg P) W := by
  have := ld_run agg81 size81 W hg (off := 0) (by rw [hP]; exact Nat.le_refl 256)
  rwa [List.drop_zero, List.take_of_length_le (by rw [hP]; exact Nat.le_refl 256)] at this
theorem flat_page (pgs : List (List UInt8)) (hl : ∀ p ∈ pgs, p.length = 256) (k : Nat) (hk : k < pgs.length) : (pgs.flatten.drop (k * 256)).take 256 = pgs[k] := by
  induction pgs generalizing k with
  | nil => simp at hk
  | cons p pgs ih =>
    have hp := hl p (by simp)
    cases k with
    | zero => rw [List.flatten_cons, Nat.zero_mul, List.drop_zero, List.take_left' hp]; rfl
    | succ k =>
      have := ih (fun q hq => hl q (by simp [hq])) k (by simpa using hk)
      rw [List.flatten_cons, show (k + 1) * 256 = 256 + k * 256 by omega, ← List.drop_drop, List.drop_left' hp, this]
      rfl
theorem flat_length (pgs : List (List UInt8)) (hl : ∀ p ∈ pgs, p.length = 256) : pgs.flatten.length = pgs.length * 256 := by
  induction pgs with
  | nil => rfl
  | cons p pgs ih => rw [List.flatten_cons, List.length_append, ih fun q hq => hl q (by simp [hq]), hl p (by simp), List.length_cons]; omega
/-- a store lies apart from its disk's blocks -/
theorem StoreAt.apart {w : World} {bs bd bp bm : Nat} {C : Cn} (hs : StoreAt w bs bd) (h : DiskAt w bd bp bm C) : bs ≠ bd ∧ bs ≠ bp ∧ bs ≠ bm := by
  unfold StoreAt at hs
  refine ⟨?_, ?_, ?_⟩
  · rintro rfl; rw [h.c0] at hs; cases hs
  · rintro rfl
    rw [cell_of_row _ _ _ _ _ _ h.p, List.getElem?_toArray, bvs, List.getElem?_map] at hs
    cases hb : C.bytes[0]? with
    | none => rw [hb] at hs; cases hs
    | some b => rw [hb] at hs; cases hs
  · rintro rfl
    obtain ⟨es, ck, hm, _⟩ := h.m
    simp [World.cell?, hm] at hs
set_option maxRecDepth 1000000 in
set_option maxHeartbeats 4000000 in
theorem do_loop6 (w : World) (n0 base be bw bs bd bp bm : Nat) (vf : Value) (Ap Al : Option Addr) (cp cl : Nat) (C : Cn) (pgs : List (List UInt8)) (places : List Nat) (hD : DiskAt w bd bp bm C) (hfb : C.fuse ≤ 9223372036854775807) (hs : StoreAt w bs bd)
    (hlen : pgs.length = places.length) (hlong : ∀ p ∈ pgs, p.length = 256) (hpl : ∀ q ∈ places, q < C.n) (hmany : pgs.length ≤ 100000)
    (hdn : bd < n0 ∧ bp < n0 ∧ bm < n0) (hnbw : n0 ≤ bw) (hnbase : n0 ≤ base) 
    (hrw : w.heap[bw]? = some (.cells #[vf, .slice Ap pgs.length cp, .slice Al places.length cl] 87 (0, 0))) (hop : w.ownsRow base 81 256 (.slice Ap pgs.length cp) pgs.length (bvs pgs.flatten)) (hol : w.ownsRow base 3 1 (.slice Al places.length cl) places.length (ivs places))
    (Q : Exit → Act → World → Prop) (DL : List Deferred) (x1 x2 x3 x5 x6 x8 x9 x10 x11 x12 x13 x14 x15 x16 x17 x18 x19 x20 x21 x24 x25 x26 x27 x28 x29 x30 x31 x32 x33 x34 x35 x36 x37 x38 x39 x40 x41 x42 x43 x44 x45 x46 x47 x48 x49 x50 x51 x52 x53 x54 x55 x56 x57 x58 x59 x60 x61 x62 x63 x64 x65 x66 x67 x68 x69 x70 x71 x72 x73 x74 x75 x76 x77 x78 x79 x80 x81 x82 x83 x84 x85 x86 x87 x88 x89 x90 x91 x92 x93 x94 x95 x96 x97 x98 x99 x100 x101 x102 x103 x104 x105 x106 x107 x108 x109 x110 x111 x112 x113 x114 x115 x116 x117 x118 x119 x120 x121 x122 x123 x124 x125 x126 x127 x128 x129 x130 x131 x132 x133 x134 x135 x136 x137 x138 x139 x159 x160 x161 x162 x163 x164 x165 x166 x167 x168 x169 x170 x171 x172 x173 x174 x175 x176 x177 x178 x179 x180 : Value) (z22 z23 z143 z144 z145 z146 z147 z148 z149 z150 z151 z152 z153 z154 z155 z156 z157 z158 : Value)
    (hexit : ∀ (y22 y23 y142 y143 y144 y145 y146 y147 y148 y149 y150 y151 y152 y153 y154 y155 y156 y157 y158 : Value) (C' : Cn) (w' : World), wrAll C (places.zip pgs) = (C', true) → DiskAt w' bd bp bm C' → Only3 bd bp bm w w' → Q (.exit 6) ⟨(List.toArray (.pointer (some ⟨bs, 0, none⟩) :: x1 :: x2 :: x3 :: .pointer (some ⟨be, 0, none⟩) :: x5 :: x6 :: .pointer (some ⟨bw, 0, none⟩) :: x8 :: x9 :: x10 :: x11 :: x12 :: x13 :: x14 :: x15 :: x16 :: x17 :: x18 :: x19 :: x20 :: x21 :: y22 :: y23 :: x24 :: x25 :: x26 :: x27 :: x28 :: x29 :: x30 :: x31 :: x32 :: x33 :: x34 :: x35 :: x36 :: x37 :: x38 :: x39 :: x40 :: x41 :: x42 :: x43 :: x44 :: x45 :: x46 :: x47 :: x48 :: x49 :: x50 :: x51 :: x52 :: x53 :: x54 :: x55 :: x56 :: x57 :: x58 :: x59 :: x60 :: x61 :: x62 :: x63 :: x64 :: x65 :: x66 :: x67 :: x68 :: x69 :: x70 :: x71 :: x72 :: x73 :: x74 :: x75 :: x76 :: x77 :: x78 :: x79 :: x80 :: x81 :: x82 :: x83 :: x84 :: x85 :: x86 :: x87 :: x88 :: x89 :: x90 :: x91 :: x92 :: x93 :: x94 :: x95 :: x96 :: x97 :: x98 :: x99 :: x100 :: x101 :: x102 :: x103 :: x104 :: x105 :: x106 :: x107 :: x108 :: x109 :: x110 :: x111 :: x112 :: x113 :: x114 :: x115 :: x116 :: x117 :: x118 :: x119 :: x120 :: x121 :: x122 :: x123 :: x124 :: x125 :: x126 :: x127 :: x128 :: x129 :: x130 :: x131 :: x132 :: x133 :: x134 :: x135 :: x136 :: x137 :: x138 :: x139 :: .slice Ap pgs.length cp :: .int .i64 (pgs.length : Int) :: y142 :: y143 :: y144 :: y145 :: y146 :: y147 :: y148 :: y149 :: y150 :: y151 :: y152 :: y153 :: y154 :: y155 :: y156 :: y157 :: y158 :: x159 :: x160 :: x161 :: x162 :: x163 :: x164 :: x165 :: x166 :: x167 :: x168 :: x169 :: x170 :: x171 :: x172 :: x173 :: x174 :: x175 :: x176 :: x177 :: x178 :: x179 :: x180 :: [])), DL⟩ w')
    (hpan : ∀ c a w', PF be bd bp bm DL C (places.zip pgs) w c a w' → Q (.panic c) a w') :
    Code.wp Try.prog (Code.loop doLoop6) Q ⟨(List.toArray (.pointer (some ⟨bs, 0, none⟩) :: x1 :: x2 :: x3 :: .pointer (some ⟨be, 0, none⟩) :: x5 :: x6 :: .pointer (some ⟨bw, 0, none⟩) :: x8 :: x9 :: x10 :: x11 :: x12 :: x13 :: x14 :: x15 :: x16 :: x17 :: x18 :: x19 :: x20 :: x21 :: z22 :: z23 :: x24 :: x25 :: x26 :: x27 :: x28 :: x29 :: x30 :: x31 :: x32 :: x33 :: x34 :: x35 :: x36 :: x37 :: x38 :: x39 :: x40 :: x41 :: x42 :: x43 :: x44 :: x45 :: x46 :: x47 :: x48 :: x49 :: x50 :: x51 :: x52 :: x53 :: x54 :: x55 :: x56 :: x57 :: x58 :: x59 :: x60 :: x61 :: x62 :: x63 :: x64 :: x65 :: x66 :: x67 :: x68 :: x69 :: x70 :: x71 :: x72 :: x73 :: x74 :: x75 :: x76 :: x77 :: x78 :: x79 :: x80 :: x81 :: x82 :: x83 :: x84 :: x85 :: x86 :: x87 :: x88 :: x89 :: x90 :: x91 :: x92 :: x93 :: x94 :: x95 :: x96 :: x97 :: x98 :: x99 :: x100 :: x101 :: x102 :: x103 :: x104 :: x105 :: x106 :: x107 :: x108 :: x109 :: x110 :: x111 :: x112 :: x113 :: x114 :: x115 :: x116 :: x117 :: x118 :: x119 :: x120 :: x121 :: x122 :: x123 :: x124 :: x125 :: x126 :: x127 :: x128 :: x129 :: x130 :: x131 :: x132 :: x133 :: x134 :: x135 :: x136 :: x137 :: x138 :: x139 :: .slice Ap pgs.length cp :: .int .i64 (pgs.length : Int) :: .int .i64 0 :: z143 :: z144 :: z145 :: z146 :: z147 :: z148 :: z149 :: z150 :: z151 :: z152 :: z153 :: z154 :: z155 :: z156 :: z157 :: z158 :: x159 :: x160 :: x161 :: x162 :: x163 :: x164 :: x165 :: x166 :: x167 :: x168 :: x169 :: x170 :: x171 :: x172 :: x173 :: x174 :: x175 :: x176 :: x177 :: x178 :: x179 :: x180 :: [])), DL⟩ w := by
  have HE := Lib.hid hexit; have HPAN := Lib.hid hpan; clear hexit hpan
  have HRW := Lib.hid hrw; have HOP := Lib.hid hop; have HOL := Lib.hid hol; have HS := Lib.hid hs; have HD := Lib.hid hD
  have hap := hs.apart hD
  have hbsl : bs < w.heap.size := block_lt_of_cell hs
  have hbwl := (Array.getElem?_eq_some_iff.1 hrw).1
  clear hrw hop hol hs hD
  conv => arg 2; arg 1; whnf
  go_loopw [142] (fun i wr => ∃ k : Nat, k ≤ pgs.length ∧ i = .int .i64 k ∧ ∃ C', wrAll C ((places.zip pgs).take k) = (C', true) ∧ DiskAt wr bd bp bm C' ∧ Only3 bd bp bm w wr)
    (fun i _ => pgs.length - (intOf i).toNat)
  case atStart => exact ⟨0, Nat.zero_le _, rfl, C, rfl, HD.out, Only3.refl _ _ _ _⟩
  case round =>
    obtain ⟨k, hk, rfl, C', hC', hD', ho⟩ := hrel
    by_cases hlt : k < pgs.length
    · have hlti : (k : Int) < (pgs.length : Int) := by omega
      have hlt2 : k < places.length := by omega
      have HLENE := Lib.hid hlen
      have hlti2 : (k : Int) < (places.length : Int) := by omega
      have hkeep : ∀ b, b < w.heap.size → b ≠ bd → b ≠ bp → b ≠ bm → wr.heap[b]? = w.heap[b]? := ho.block
      have hrwr := (hkeep bw hbwl (by omega) (by omega) (by omega)).trans HRW.out
      have hopr := own_kept (w' := wr) HOP.out fun b cs fr h1 h2 => hkeep b (Array.getElem?_eq_some_iff.1 h2).1 (by omega) (by omega) (by omega)
      have holr := own_kept (w' := wr) HOL.out fun b cs fr h1 h2 => hkeep b (Array.getElem?_eq_some_iff.1 h2).1 (by omega) (by omega) (by omega)
      have hbsr : wr.cell? ⟨bs, 0, none⟩ = some (.pointer (some ⟨bd, 0, none⟩)) := (World.cell?_of_block (hkeep bs hbsl hap.1 hap.2.1 hap.2.2)).trans HS.out
      have hfl := flat_length pgs hlong
      have hpage := flat_page pgs hlong k hlt
      have hPl := hlong _ (List.getElem_mem hlt)
      have hq := hpl _ (List.getElem_mem hlt2)
      have hzip : (places.zip pgs).take (k + 1) = (places.zip pgs).take k ++ [(places[k], pgs[k])] := by
        rw [List.take_succ_eq_append_getElem (by rw [List.length_zip]; omega), List.getElem_zip]
      obtain ⟨gp, op, rfl⟩ : ∃ gp op, Ap = some ⟨gp, op, none⟩ := by
        obtain ⟨A, c, he, _, _, hc⟩ := Rd_own3 hopr
        cases he
        obtain ⟨b, off, ha, _⟩ := hc (k * 256) (by rw [bvs_length, hfl]; omega)
        exact ⟨b, off, ha⟩
      have hpc : ∀ j v, (bvs pgs[k])[j]? = some v → wr.cell? ⟨gp, op + k * 256 + j, none⟩ = some v := fun j v hv => by
        obtain ⟨A, c, he, _, _, hc⟩ := Rd_own3 hopr
        cases he
        obtain ⟨hj, rfl⟩ := List.getElem?_eq_some_iff.1 hv
        rw [bvs_length, hPl] at hj
        have hkk : k * 256 + 256 ≤ pgs.length * 256 := by omega
        obtain ⟨b, off, ha, hcell⟩ := hc (k * 256 + j) (by rw [bvs_length, hfl]; omega)
        cases ha
        rw [Nat.add_assoc, hcell]
        congr 1
        have h2 : (bvs pgs.flatten)[k * 256 + j]? = (bvs pgs[k])[j]? := by
          rw [← hpage]; simp only [bvs, List.getElem?_map, List.getElem?_take, List.getElem?_drop]; rw [if_pos hj]
        have h3 := List.getElem?_eq_getElem (l := bvs pgs.flatten) (i := k * 256 + j) (by rw [bvs_length, hfl]; omega)
        rw [h3] at h2
        have h4 := List.getElem?_eq_getElem (l := bvs pgs[k]) (i := j) (by rw [bvs_length, hPl]; exact hj)
        rw [h4] at h2
        exact Option.some.inj h2
      obtain ⟨gl, ol, rfl, hlc⟩ : ∃ gl ol, Al = some ⟨gl, ol, none⟩ ∧ wr.cell? ⟨gl, ol + k, none⟩ = some (iv places[k]) := by
        obtain ⟨A, c, he, _, _, hc⟩ := Rd_own3 holr
        cases he
        obtain ⟨b, off, ha, hcell⟩ := hc k (by rw [ivs_length]; exact hlt2)
        exact ⟨b, off, ha, hcell.trans (by simp [ivs])⟩
      have hlbase : base ≤ gl ∧ gl < wr.heap.size := holr.lt gl rfl
      obtain ⟨c0, c1, c2⟩ := cells3 hrwr
      have hCn : C'.n = C.n := by have := wrAll_n C ((places.zip pgs).take k); rw [hC'] at this; exact this
      have hCf : C'.fuse ≤ 9223372036854775807 := by have := wrAll_fuse C ((places.zip pgs).take k) (B := 9223372036854775807) (by decide) hfb; rw [hC'] at this; exact this
      have hlt3 : (bvs pgs[k]).length = 256 := by rw [bvs_length, hPl]
      unfold iv at hlc
      generalize hPP : pgs[k] = P at *
      generalize hQQ : places[k] = q at *
      have HP := Lib.hid hPl; have HZ := Lib.hid hzip; have HCN := Lib.hid hCn; have HC := Lib.hid hC'; have HL3 := Lib.hid hlt3
      have HRWR := Lib.hid hrwr; have HOLR := Lib.hid holr; have HOPR := Lib.hid hopr
      have hszr := ho.size
      clear hlen
      clear hPl hzip hCn hC' hPP hQQ hpage hlt3 hrwr holr hopr hfl hkeep
      have HDR := Lib.hid hD'; have HO := Lib.hid ho; have HPC := Lib.hid hpc
      clear hD' ho hpc c0 c1
      have hz256 : (bvs zp).toArray.size = 256 := by simp [bvs, zp_length]
      have HZ2 := Lib.hid hz256; clear hz256
      have tok1 : True := trivial
      have tok2 : True := trivial
      go_wp2_with (first | (have _t := tok1; refine ld_agg agg81 size81 rfl _ rfl (g := gp) (off := op + k * 256) (by simp [Act.eval]) (bvs P) HL3.out HPC.out ?_; clear tok1) | (have _t := tok2; refine al81n rfl rfl ?_; clear tok2))
      intro w1 h1 hs1 b1
      have H1 := Lib.hid h1; clear h1
      go_wp2_with (refine st81 rfl _ _ rfl rfl rfl HP.out H1.out HZ2.out ?_)
      intro w2 h2 o2
      have H2 := Lib.hid h2; clear h2 H1
      have b12 : Below wr.heap.size wr w2 := b1.trans (o2.below (Nat.le_refl _))
      go_wp2_with fail
      refine wp_panics (PF be bd bp bm DL C (places.zip pgs) w) (fun c a w' h => HPAN.out c a w' h) ?_
      have c2' := (b12.cell (p := ⟨bw, 2, none⟩) (by show bw < _; omega)).trans c2
      have hlc' := (b12.cell (p := ⟨gl, ol + k, none⟩) hlbase.2).trans hlc
      have hbs' := (b12.cell (p := ⟨bs, 0, none⟩) (by show bs < _; omega)).trans hbsr
      refine wp_region_held (S := fun W => W.cell? ⟨bs, 0, none⟩ = some (.pointer (some ⟨bd, 0, none⟩)) ∧ W.cell? ⟨bw, 2, none⟩ = some (.slice (some ⟨gl, ol, none⟩) places.length cl) ∧ W.cell? ⟨gl, ol + k, none⟩ = some (.int .i64 (q : Int)) ∧ W.heap[wr.heap.size]? = some (.cells (bvs P).toArray 81 (0, 0))) (by kernel_rfl) ?_
      have HS0 : Hid (w2.drew.cell? ⟨bs, 0, none⟩ = some (.pointer (some ⟨bd, 0, none⟩)) ∧ w2.drew.cell? ⟨bw, 2, none⟩ = some (.slice (some ⟨gl, ol, none⟩) places.length cl) ∧ w2.drew.cell? ⟨gl, ol + k, none⟩ = some (.int .i64 (q : Int)) ∧ w2.drew.heap[wr.heap.size]? = some (.cells (bvs P).toArray 81 (0, 0))) := Lib.hid ⟨hbs', c2', hlc', H2.out⟩
      refine wpAnyH_take (i := 0) (v := .pointer (some ⟨bs, 0, none⟩)) rfl (by kernel_rfl) (by kernel_rfl) (by kernel_rfl) (fun _ _ _ h => pf_put (d := 147) (by decide) h) (.inl ⟨by rfl, fun W hS => by kernel_rfl⟩) HS0.out ?_
      refine wpAnyH_take (i := 1) (v := .pointer (some ⟨bs, 0, none⟩)) rfl (by kernel_rfl) (by kernel_rfl) (by kernel_rfl) (fun _ _ _ h => pf_put (d := 148) (by decide) h) (.inl ⟨by rfl, fun W hS => by kernel_rfl⟩) HS0.out ?_
      refine wpAnyH_take (i := 2) (v := .pointer (some ⟨bs, 0, none⟩)) rfl (by kernel_rfl) (by kernel_rfl) (by kernel_rfl) (fun _ _ _ h => pf_put (d := 149) (by decide) h) (.inl ⟨by rfl, fun W hS => by kernel_rfl⟩) HS0.out ?_
      refine wpAnyH_take (i := 3) (v := .pointer (some ⟨bd, 0, none⟩)) rfl (by kernel_rfl) (by kernel_rfl) (by kernel_rfl) (fun _ _ _ h => pf_put (d := 150) (by decide) h) (.inl ⟨by rfl, fun W hS => exec_load (ad := ⟨bs, 0, none⟩) rfl (by kernel_rfl) (ld_cell nag28 hS.1)⟩) HS0.out ?_
      refine wpAnyH_take (i := 4) (v := .pointer (some ⟨bw, 2, none⟩)) rfl (by kernel_rfl) (by kernel_rfl) (by kernel_rfl) (fun _ _ _ h => pf_put (d := 151) (by decide) h) (.inl ⟨by rfl, fun W hS => by kernel_rfl⟩) HS0.out ?_
      refine wpAnyH_take (i := 5) (v := .slice (some ⟨gl, ol, none⟩) places.length cl) rfl (by kernel_rfl) (by kernel_rfl) (by kernel_rfl) (fun _ _ _ h => pf_put (d := 152) (by decide) h) (.inl ⟨by rfl, fun W hS => exec_load (ad := ⟨bw, 2, none⟩) rfl (by kernel_rfl) (ld_cell nag51 hS.2.1)⟩) HS0.out ?_
      refine wpAnyH_take (i := 6) (v := .int .i64 (k : Int)) rfl (by kernel_rfl) (by kernel_rfl) (by kernel_rfl) (fun _ _ _ h => pf_put (d := 153) (by decide) h) (.inl ⟨by rfl, fun W hS => by kernel_rfl⟩) HS0.out ?_
      refine wpAnyH_take (i := 7) (v := .pointer (some ⟨gl, ol + k, none⟩)) rfl (by kernel_rfl) (by kernel_rfl) (by kernel_rfl) (fun _ _ _ h => pf_put (d := 154) (by decide) h) (.inl ⟨by rfl, fun W hS => by go_simp⟩) HS0.out ?_
      refine wpAnyH_take (i := 8) (v := .int .i64 (q : Int)) rfl (by kernel_rfl) (by kernel_rfl) (by kernel_rfl) (fun _ _ _ h => pf_put (d := 155) (by decide) h) (.inl ⟨by rfl, fun W hS => exec_load (ad := ⟨gl, ol + k, none⟩) rfl (by kernel_rfl) (ld_cell nag3 hS.2.2.1)⟩) HS0.out ?_
      refine wpAnyH_take (i := 9) (v := pg P) rfl (by kernel_rfl) (by kernel_rfl) (by kernel_rfl) (fun _ _ _ h => pf_put (d := 156) (by decide) h) (.inl ⟨by rfl, fun W hS => exec_load (ad := ⟨wr.heap.size, 0, none⟩) rfl (by kernel_rfl) (ld_page hS.2.2.2 HP.out)⟩) HS0.out ?_
      refine wpAnyH_all (rs := [10]) (by kernel_rfl) (by simp) ?_
      intro i hi
      obtain rfl : i = 10 := by simpa using hi
      refine op_at rfl rfl ?_
      have hDw : DiskAt w2.drew bd bp bm C' := (HDR.out.below b12 (Nat.le_refl _)).drew
      have hwr := write_any w2.drew hDw hCf q (by rw [HCN.out]; exact hq) P HP.out
      have HWR := Lib.hid hwr
      have hO2 : Only3 bd bp bm w w2.drew := (HO.out.trans (Only3.of_below b12)).drew
      have HO2 := Lib.hid hO2
      have hszw := b12.size
      clear hwr hDw hO2 hbs' c2' hlc' c2 hlc hbsr b12 b1 o2 hs1
      go_simp
      refine HWR.out.mono ?_
      rintro e w3 ⟨o3, ⟨hfu, hd3, v3, rfl⟩ | ⟨hf0, hf256, hd3, rfl⟩⟩
      · have hk3 : ∀ b, b < w2.heap.size → b ≠ bd → b ≠ bp → b ≠ bm → w3.heap[b]? = w2.heap[b]? := o3.block
        have hS3 : w3.cell? ⟨bs, 0, none⟩ = some (.pointer (some ⟨bd, 0, none⟩)) ∧ w3.cell? ⟨bw, 2, none⟩ = some (.slice (some ⟨gl, ol, none⟩) places.length cl) ∧ w3.cell? ⟨gl, ol + k, none⟩ = some (.int .i64 (q : Int)) ∧ w3.heap[wr.heap.size]? = some (.cells (bvs P).toArray 81 (0, 0)) := by
          obtain ⟨t1, t2, t3, t4⟩ := HS0.out
          have hnw := (Array.getElem?_eq_some_iff.1 H2.out).1
          refine ⟨(World.cell?_of_block (hk3 bs (by omega) hap.1 hap.2.1 hap.2.2)).trans t1, (World.cell?_of_block (hk3 bw (by omega) (by omega) (by omega) (by omega))).trans t2, (World.cell?_of_block (hk3 gl (by omega) (by omega) (by omega) (by omega))).trans t3, (hk3 wr.heap.size hnw ?_ ?_ ?_).trans t4⟩
          · have := HDR.out.lt; omega
          · have := HDR.out.lt; omega
          · have := HDR.out.lt; omega
        refine ⟨hS3, ?_⟩
        have HOK := Lib.hid (show wrAll C ((places.zip pgs).take (k + 1)) = (C'.wr q P 256, true) by rw [HZ.out, wrAll_append, HC.out]; simp only [if_true, wrAll]; rw [if_pos hfu])
        have HD3 := Lib.hid hd3; have HO3 := Lib.hid (HO2.out.trans o3)
        clear hS3 hd3 o3 hk3
        refine ⟨by kernel_rfl, ?_⟩
        go_wp2
        go_roundw
        case rel => exact ⟨k + 1, by omega, by go_num, C'.wr q P 256, HOK.out, HD3.out, HO3.out⟩
        case measure => simp [intOf]; omega
      · refine ⟨by kernel_rfl, rfl, rfl, { C'.wr q P C'.fuse.toNat with down := true }, ?_, hd3, HO2.out.trans o3⟩
        have h1 : wrAll C ((places.zip pgs).take (k + 1)) = ({ C'.wr q P C'.fuse.toNat with down := true }, false) := by
          rw [HZ.out, wrAll_append, HC.out]; simp only [if_true, wrAll]; rw [if_neg (by omega)]
        have h2 := wrAll_append C ((places.zip pgs).take (k + 1)) ((places.zip pgs).drop (k + 1))
        rw [List.take_append_drop, h1] at h2
        exact h2
    · obtain rfl : k = pgs.length := by omega
      have hge : (pgs.length : Int) ≤ (pgs.length : Int) := Int.le_refl _
      have HC := Lib.hid (show wrAll C (places.zip pgs) = (C', true) by rwa [List.take_of_length_le (by rw [List.length_zip]; omega)] at hC')
      clear hC'
      have HDR := Lib.hid hD'; have HO := Lib.hid ho
      clear hD' ho
      go_wp2
      exact HE.out _ _ _ _ _ _ _ _ _ _ _ _ _ _ _ _ _ _ _ C' wr HC.out HDR.out HO.out
end Go.Proofs.Ytcgapfmdpchemaa
