/- The third loop of Do: the changes are made. -/
import Derived.Test.YtcgapfmdpchemaaDoC
namespace Go.Proofs.Ytcgapfmdpchemaa
open Go.RowKit
theorem ents_mid (ps : List (DE × Value)) (i : Nat) (p : DE × Value) : ents (ps.take i ++ p :: ps.drop i) = (ents ps).take i ++ p.1 :: (ents ps).drop i := by simp [ents]
theorem ents_cut (ps : List (DE × Value)) (i : Nat) : ents (ps.take i ++ ps.drop (i + 1)) = (ents ps).take i ++ (ents ps).drop (i + 1) := by simp [ents]
/-- a string's bytes in new memory -/
theorem cvb {ops : Array Oper} {rest : List Oper} {o : Oper} {a : Act} {w : World} {Q : Exit → Act → World → Prop} (hgd : o.guard = none) (x : Operand) (ho : o.op = .convert 9 97 x) {s : ByteArray} (hx : a.eval x = .string s)
    (hk : wpList Try.prog ops Q rest (a.put o.dst (.slice (some ⟨w.heap.size, 0, none⟩) s.size (grownCap w s.size 0 5))) (Lib.bytesWorld w 5 s)) : wpList Try.prog ops Q (o :: rest) a w :=
  wpList_plain hgd fun K hK => by
    unfold Oper.wp execOp
    simp only [ho, hx, Sem.run_bind, Lib.run_convert_string_bytes w 9 97 5 s Try.underlying9 Try.underlying97 Try.underlying5, Result.andThen_ok, Sem.run_pure]
    exact hK _ _ hk
set_option maxRecDepth 1000000 in
set_option maxHeartbeats 8000000 in
theorem do_loop4 (w : World) (n0 base be bw n F : Nat) (l : List Pt) (Ap : Option Addr) (cp : Nat) (v5 vf0 : Value) (ps0 : List (DE × Value)) (s0 : WS) (x0e : Value) (hp : ∀ w', Below n0 w w' → PutsAt w' (.slice Ap l.length cp) l) (hl : l.length ≤ 100) (hok : ∀ x ∈ l, x.ok)
    (hS0 : s0.Ok n F 24800) (hn4 : n ≤ 4096) (hF : F ≤ 4096) (hps0 : ents ps0 = s0.es) (hrow0 : EntRow w n0 v5 ps0) (hlow0 : ∀ p ∈ ps0, IntsLow base w p.2 p.1.pages) (hW0 : WorkAt w base bw vf0 s0.free s0.pgs s0.places)
    (hbe : w.heap[be]? = some (.cells #[x0e] 29 (0, 0))) (hnbw : n0 ≤ bw) (hnbase : n0 ≤ base) (hnw : n0 ≤ w.heap.size)
    (Q : Exit → Act → World → Prop) (x0 x1 x2 x3 x6 x8 x9 x10 x11 x12 x13 x14 x20 x21 x22 x23 x24 x25 x26 x27 x28 x29 x30 x31 x32 x33 x34 x35 x36 x37 x38 x39 x40 x41 x42 x43 x44 x45 x46 x47 x48 x49 x50 x51 x52 x53 x54 x55 x56 x57 x58 x59 x60 x61 x62 x63 x64 x65 x66 x67 x68 x69 x70 x71 x72 x73 x74 x75 x76 x77 x78 x79 x80 x81 x125 x126 x127 x128 x129 x130 x131 x132 x133 x134 x135 x136 x137 x138 x139 x140 x141 x142 x143 x144 x145 x146 x147 x148 x149 x150 x151 x152 x153 x154 x155 x156 x157 x158 x159 x160 x161 x162 x163 x164 x165 x166 x167 x168 x169 x170 x171 x172 x173 x174 x175 x176 x177 x178 x179 x180 : Value) (z15 z16 z17 z18 z19 z85 z86 z87 z88 z89 z90 z91 z92 z93 z94 z95 z96 z97 z98 z99 z100 z101 z102 z103 z104 z105 z106 z107 z108 z109 z110 z111 z112 z113 z114 z115 z116 z117 z118 z119 z120 z121 z122 z123 z124 : Value)
    (hexit : ∀ (y15 y16 y17 y18 y19 y84 y85 y86 y87 y88 y89 y90 y91 y92 y93 y94 y95 y96 y97 y98 y99 y100 y101 y102 y103 y104 y105 y106 y107 y108 y109 y110 y111 y112 y113 y114 y115 y116 y117 y118 y119 y120 y121 y122 y123 y124 : Value) (v5 vf : Value) (ps : List (DE × Value)) (s : WS) (w' : World), s0.puts l = some s → ents ps = s.es → EntRow w' n0 v5 ps → (∀ p ∈ ps, IntsLow base w' p.2 p.1.pages) → WorkAt w' base bw vf s.free s.pgs s.places → Below n0 w w' → w'.heap[be]? = some (.cells #[x0e] 29 (0, 0)) → Q (.exit 4) ⟨(List.toArray (x0 :: x1 :: x2 :: x3 :: .pointer (some ⟨be, 0, none⟩) :: v5 :: x6 :: .pointer (some ⟨bw, 0, none⟩) :: x8 :: x9 :: x10 :: x11 :: x12 :: x13 :: x14 :: y15 :: y16 :: y17 :: y18 :: y19 :: x20 :: x21 :: x22 :: x23 :: x24 :: x25 :: x26 :: x27 :: x28 :: x29 :: x30 :: x31 :: x32 :: x33 :: x34 :: x35 :: x36 :: x37 :: x38 :: x39 :: x40 :: x41 :: x42 :: x43 :: x44 :: x45 :: x46 :: x47 :: x48 :: x49 :: x50 :: x51 :: x52 :: x53 :: x54 :: x55 :: x56 :: x57 :: x58 :: x59 :: x60 :: x61 :: x62 :: x63 :: x64 :: x65 :: x66 :: x67 :: x68 :: x69 :: x70 :: x71 :: x72 :: x73 :: x74 :: x75 :: x76 :: x77 :: x78 :: x79 :: x80 :: x81 :: .slice Ap l.length cp :: .int .i64 (l.length : Int) :: y84 :: y85 :: y86 :: y87 :: y88 :: y89 :: y90 :: y91 :: y92 :: y93 :: y94 :: y95 :: y96 :: y97 :: y98 :: y99 :: y100 :: y101 :: y102 :: y103 :: y104 :: y105 :: y106 :: y107 :: y108 :: y109 :: y110 :: y111 :: y112 :: y113 :: y114 :: y115 :: y116 :: y117 :: y118 :: y119 :: y120 :: y121 :: y122 :: y123 :: y124 :: x125 :: x126 :: x127 :: x128 :: x129 :: x130 :: x131 :: x132 :: x133 :: x134 :: x135 :: x136 :: x137 :: x138 :: x139 :: x140 :: x141 :: x142 :: x143 :: x144 :: x145 :: x146 :: x147 :: x148 :: x149 :: x150 :: x151 :: x152 :: x153 :: x154 :: x155 :: x156 :: x157 :: x158 :: x159 :: x160 :: x161 :: x162 :: x163 :: x164 :: x165 :: x166 :: x167 :: x168 :: x169 :: x170 :: x171 :: x172 :: x173 :: x174 :: x175 :: x176 :: x177 :: x178 :: x179 :: x180 :: [])), []⟩ w')
    (hret : ∀ (y5 y15 y16 y17 y18 y19 y84 y85 y86 y87 y88 y89 y90 y91 y92 y93 y94 y95 y96 y97 y98 y99 y100 y101 y102 y103 y104 y105 y106 y107 y108 y109 y110 y111 y112 y113 y114 y115 y116 y117 y118 y119 y120 y121 y122 y123 y124 : Value) (w' : World), Below n0 w w' → s0.puts l = none → w'.heap[be]? = some (.cells #[x0e] 29 (0, 0)) → Q .ret ⟨(List.toArray (x0 :: x1 :: x2 :: x3 :: .pointer (some ⟨be, 0, none⟩) :: y5 :: x6 :: .pointer (some ⟨bw, 0, none⟩) :: x8 :: x9 :: x10 :: x11 :: x12 :: x13 :: x14 :: y15 :: y16 :: y17 :: y18 :: y19 :: x20 :: x21 :: x22 :: x23 :: x24 :: x25 :: x26 :: x27 :: x28 :: x29 :: x30 :: x31 :: x32 :: x33 :: x34 :: x35 :: x36 :: x37 :: x38 :: x39 :: x40 :: x41 :: x42 :: x43 :: x44 :: x45 :: x46 :: x47 :: x48 :: x49 :: x50 :: x51 :: x52 :: x53 :: x54 :: x55 :: x56 :: x57 :: x58 :: x59 :: x60 :: x61 :: x62 :: x63 :: x64 :: x65 :: x66 :: x67 :: x68 :: x69 :: x70 :: x71 :: x72 :: x73 :: x74 :: x75 :: x76 :: x77 :: x78 :: x79 :: x80 :: x81 :: .slice Ap l.length cp :: .int .i64 (l.length : Int) :: y84 :: y85 :: y86 :: y87 :: y88 :: y89 :: y90 :: y91 :: y92 :: y93 :: y94 :: y95 :: y96 :: y97 :: y98 :: y99 :: y100 :: y101 :: y102 :: y103 :: y104 :: y105 :: y106 :: y107 :: y108 :: y109 :: y110 :: y111 :: y112 :: y113 :: y114 :: y115 :: y116 :: y117 :: y118 :: y119 :: y120 :: y121 :: y122 :: y123 :: y124 :: x125 :: x126 :: x127 :: x128 :: x129 :: x130 :: x131 :: x132 :: x133 :: x134 :: x135 :: x136 :: x137 :: x138 :: x139 :: x140 :: x141 :: x142 :: x143 :: x144 :: x145 :: x146 :: x147 :: x148 :: x149 :: x150 :: x151 :: x152 :: x153 :: x154 :: x155 :: x156 :: x157 :: x158 :: x159 :: x160 :: x161 :: x162 :: x163 :: x164 :: x165 :: x166 :: x167 :: x168 :: x169 :: x170 :: x171 :: x172 :: x173 :: x174 :: x175 :: x176 :: x177 :: x178 :: x179 :: x180 :: [])), []⟩ (w'.setCell ⟨be, 0, none⟩ (.int .i64 5))) :
    Code.wp Try.prog (Code.loop doLoop4) Q ⟨(List.toArray (x0 :: x1 :: x2 :: x3 :: .pointer (some ⟨be, 0, none⟩) :: v5 :: x6 :: .pointer (some ⟨bw, 0, none⟩) :: x8 :: x9 :: x10 :: x11 :: x12 :: x13 :: x14 :: z15 :: z16 :: z17 :: z18 :: z19 :: x20 :: x21 :: x22 :: x23 :: x24 :: x25 :: x26 :: x27 :: x28 :: x29 :: x30 :: x31 :: x32 :: x33 :: x34 :: x35 :: x36 :: x37 :: x38 :: x39 :: x40 :: x41 :: x42 :: x43 :: x44 :: x45 :: x46 :: x47 :: x48 :: x49 :: x50 :: x51 :: x52 :: x53 :: x54 :: x55 :: x56 :: x57 :: x58 :: x59 :: x60 :: x61 :: x62 :: x63 :: x64 :: x65 :: x66 :: x67 :: x68 :: x69 :: x70 :: x71 :: x72 :: x73 :: x74 :: x75 :: x76 :: x77 :: x78 :: x79 :: x80 :: x81 :: .slice Ap l.length cp :: .int .i64 (l.length : Int) :: .int .i64 0 :: z85 :: z86 :: z87 :: z88 :: z89 :: z90 :: z91 :: z92 :: z93 :: z94 :: z95 :: z96 :: z97 :: z98 :: z99 :: z100 :: z101 :: z102 :: z103 :: z104 :: z105 :: z106 :: z107 :: z108 :: z109 :: z110 :: z111 :: z112 :: z113 :: z114 :: z115 :: z116 :: z117 :: z118 :: z119 :: z120 :: z121 :: z122 :: z123 :: z124 :: x125 :: x126 :: x127 :: x128 :: x129 :: x130 :: x131 :: x132 :: x133 :: x134 :: x135 :: x136 :: x137 :: x138 :: x139 :: x140 :: x141 :: x142 :: x143 :: x144 :: x145 :: x146 :: x147 :: x148 :: x149 :: x150 :: x151 :: x152 :: x153 :: x154 :: x155 :: x156 :: x157 :: x158 :: x159 :: x160 :: x161 :: x162 :: x163 :: x164 :: x165 :: x166 :: x167 :: x168 :: x169 :: x170 :: x171 :: x172 :: x173 :: x174 :: x175 :: x176 :: x177 :: x178 :: x179 :: x180 :: [])), []⟩ w := by
  have HEX := Lib.hid hexit; have HRT := Lib.hid hret; clear hexit hret
  have HBE0 := Lib.hid hbe; have HROW0 := Lib.hid hrow0; have HLOW0 := Lib.hid hlow0; have HW0 := Lib.hid hW0; have HPS0 := Lib.hid hps0
  clear hbe hrow0 hlow0 hW0 hps0
  conv => arg 2; arg 1; whnf
  go_loopw [5, 84] (fun v i wr => ∃ k : Nat, k ≤ l.length ∧ i = .int .i64 k ∧ ∃ (s : WS) (ps : List (DE × Value)) (vf : Value), s0.puts (l.take k) = some s ∧ ents ps = s.es ∧ EntRow wr n0 v ps ∧ (∀ p ∈ ps, IntsLow base wr p.2 p.1.pages) ∧ WorkAt wr base bw vf s.free s.pgs s.places ∧ Below n0 w wr ∧ wr.heap[be]? = some (.cells #[x0e] 29 (0, 0)))
    (fun _ i _ => l.length - (intOf i).toNat)
  case atStart => exact ⟨0, Nat.zero_le _, rfl, s0, ps0, vf0, rfl, HPS0.out, HROW0.out, HLOW0.out, HW0.out, Below.refl _ _, HBE0.out⟩
  case round =>
    obtain ⟨k, hk, rfl, s, ps, vf, hs, hps, hrow, hlow, hW, hb, hbe⟩ := hrel
    have HS := Lib.hid hs; have HPS := Lib.hid hps
    have hSok := hS0.puts hn4 (fun x hx => hok x (List.mem_of_mem_take hx)) hs
    by_cases hlt : k < l.length
    · have hlti : (k : Int) < (l.length : Int) := by omega
      obtain ⟨b, off, c', he, h0, h1, h2⟩ := PutsAt.cells (hp wr hb) hlt
      cases he
      have hxok := hok _ (List.getElem_mem hlt)
      have htk1 : l.take (k + 1) = l.take k ++ [l[k]] := List.take_succ_eq_append_getElem hlt
      have hmany : ps.length ≤ 30000 := by have := hSok.many; rw [List.length_take] at this; rw [← ents_length, hps]; omega
      have hasc : Asc (ents ps) := by rw [hps]; exact hSok.asc
      have hpl : s.places.length ≤ 4096 := by have := hSok.free_; omega
      have hpgl : s.pgs.length ≤ 4096 := by have := hSok.len; omega
      have hfrl : s.free.length ≤ 4096 := by have := hSok.free_; omega
      have hx6 := hxok.2.2
      generalize hX : l[k] = x at *
      have HTK1 := Lib.hid htk1; clear htk1 hX hs hps hxok
      have hszr := hb.size
      have hobj := heap_alloc_new wr (.cells #[.string x.name, .string x.value, .bool x.drop] 46)
      have bl : Below wr.heap.size wr (wr.alloc (.cells #[.string x.name, .string x.value, .bool x.drop] 46)) := (Below.refl _ wr).alloc (Nat.le_refl _) _
      have hrow' := hrow.below bl (Nat.le_refl _)
      have hlow' : ∀ p ∈ ps, IntsLow base (wr.alloc (.cells #[.string x.name, .string x.value, .bool x.drop] 46)) p.2 p.1.pages := fun p hp => (hlow p hp).below bl (Nat.le_refl _)
      have hW' := hW.below bl (Nat.le_refl _)
      have hbe' := (bl.block be (Array.getElem?_eq_some_iff.1 hbe).1).trans hbe
      have hb' := hb.trans (bl.mono (by omega))
      obtain ⟨w0, hw0⟩ : ∃ w0, wr.alloc (.cells #[.string x.name, .string x.value, .bool x.drop] 46) = w0 := ⟨_, rfl⟩
      rw [hw0] at hobj hrow' hlow' hW' hbe' hb' bl
      obtain ⟨g46, hg46⟩ : ∃ g46, wr.heap.size = g46 := ⟨_, rfl⟩
      rw [hg46] at hobj
      obtain ⟨a0, a1, a2⟩ := cells3 hobj
      have HOBJ := Lib.hid hobj; have HROW := Lib.hid hrow'; have HLOW := Lib.hid hlow'; have HW := Lib.hid hW'; have HBE := Lib.hid hbe'; have HB := Lib.hid hb'
      clear hobj hrow' hlow' hW' hbe' hb' hrow hlow hW hbe bl
      go_wp2_with fail
      refine (find_any w0 _ ps HROW.out.rd hasc (by omega) x.name).mono ?_
      rintro e w1 ⟨rfl, b1⟩
      rw [HPS.out]
      have hobj1 := (b1.block g46 (Array.getElem?_eq_some_iff.1 HOBJ.out).1).trans HOBJ.out
      have hrow1 := HROW.out.below b1 (Nat.le_refl _)
      have hlow1 : ∀ p ∈ ps, IntsLow base w1 p.2 p.1.pages := fun p hp => (HLOW.out p hp).below b1 (Nat.le_refl _)
      have hW1 := HW.out.below b1 (Nat.le_refl _)
      have hbe1 := (b1.block be (Array.getElem?_eq_some_iff.1 HBE.out).1).trans HBE.out
      have hb1 := HB.out.trans (b1.mono (by have := HB.out.size; omega))
      have hsz1 := hb1.size
      obtain ⟨a0', a1', a2'⟩ := cells3 hobj1
      have hisat := isB_at (es := s.es) (by rw [← HPS.out]; exact hasc) (name := x.name)
      have hile0 := atB_le s.es x.name
      have hlenps : ps.length = s.es.length := by rw [← ents_length, HPS.out]
      have hib : atB s.es x.name ≤ 30000 := by omega
      have HLEN := Lib.hid hlenps; clear hlenps
      unfold iv
      generalize hI : isB s.es x.name = t at *
      have HI := Lib.hid hI; clear hI a0 a1 a2 b1 hw0
      cases t with
      | true =>
        obtain ⟨hi1, hi2⟩ := hisat.1 rfl
        have hdel := delete_any w1 n0 _ ps hrow1 (by omega) (atB s.es x.name) (by rw [HLEN.out]; exact hi1) (by omega)
        rw [show ((atB s.es x.name + 1 : Nat) : Int) = (atB s.es x.name : Int) + 1 by omega] at hdel
        have HDEL := Lib.hid hdel
        have HLOW1 := Lib.hid hlow1; have HW1 := Lib.hid hW1; have HBE1 := Lib.hid hbe1; have HB1 := Lib.hid hb1; have HOBJ1 := Lib.hid hobj1
        clear hdel hrow1 hlow1 hW1 hbe1 hb1 hobj1 hisat
        go_wp2_with fail
        refine HDEL.out.mono ?_
        rintro e w2 ⟨v5n, rfl, hrow2, b2, k2⟩
        have HROW2 := Lib.hid hrow2
        have HLOW2 := Lib.hid (show ∀ p ∈ ps.take (atB s.es x.name) ++ ps.drop (atB s.es x.name + 1), IntsLow base w2 p.2 p.1.pages from fun p hp => by
          rcases List.mem_append.1 hp with hp | hp
          · exact (HLOW1.out p (List.mem_of_mem_take hp)).keeps k2
          · exact (HLOW1.out p (List.mem_of_mem_drop hp)).keeps k2)
        have HW2 := Lib.hid (HW1.out.keeps k2)
        have HBE2 := Lib.hid (k2.row HBE1.out (by decide))
        have HB2 := Lib.hid (HB1.out.trans b2)
        have HOBJ2 := Lib.hid (k2.row HOBJ1.out (by decide))
        have HPS1 := Lib.hid (show ents (ps.take (atB s.es x.name) ++ ps.drop (atB s.es x.name + 1)) = dropB s.es x.name by rw [ents_cut, HPS.out]; unfold dropB; rw [HI.out]; rfl)
        have hile : atB s.es x.name ≤ (ps.take (atB s.es x.name) ++ ps.drop (atB s.es x.name + 1)).length := by rw [List.length_append, List.length_take, List.length_drop, HLEN.out]; omega
        have hmany1 : (ps.take (atB s.es x.name) ++ ps.drop (atB s.es x.name + 1)).length ≤ 30000 := by rw [List.length_append, List.length_take, List.length_drop]; omega
        have hn2 : n0 ≤ w2.heap.size := by have := HB2.out.size; omega
        generalize ps.take (atB s.es x.name) ++ ps.drop (atB s.es x.name + 1) = ps1 at *
        obtain ⟨e0, e1, e2⟩ := cells3 HOBJ2.out
        clear hrow2 b2 k2 a0' a1' a2'
        generalize hD : x.drop = d at *
        have HD := Lib.hid hD; clear hD
        cases d with
        | true =>
          have HPUT := Lib.hid (show s0.puts (l.take (k + 1)) = some { s with es := dropB s.es x.name } by rw [HTK1.out, WS.puts_snoc, HS.out]; simp [WS.put, HD.out])
          go_wp2
          go_roundw
          case rel => exact ⟨k + 1, by omega, by go_num, { s with es := dropB s.es x.name }, ps1, vf, HPUT.out, HPS1.out, HROW2.out, HLOW2.out, HW2.out, HB2.out, HBE2.out⟩
          case measure => simp [intOf]; omega
        | false =>
          obtain ⟨hby, bby⟩ := bytes_at w2 x.value (by omega)
          have hW3 := HW2.out.below bby (Nat.le_refl _)
          have hnl := nameBytes_length x.value
          have htk := take_any (Lib.bytesWorld w2 5 x.value) base bw vf _ s.free s.pgs s.places (nameBytes x.value) hW3 hby (by rw [hnl]; omega) (by omega) (by omega) (by omega)
          have HTKE := Lib.hid htk; clear htk
          have b3 : Below n0 w (Lib.bytesWorld w2 5 x.value) := HB2.out.trans (bby.mono hn2)
          have hrow3 := HROW2.out.below bby (Nat.le_refl _)
          have hlow3 : ∀ p ∈ ps1, IntsLow base (Lib.bytesWorld w2 5 x.value) p.2 p.1.pages := fun p hp => (HLOW2.out p hp).below bby (Nat.le_refl _)
          have hobj3 := (bby.block g46 (Array.getElem?_eq_some_iff.1 HOBJ2.out).1).trans HOBJ2.out
          have hbe3 := (bby.block be (Array.getElem?_eq_some_iff.1 HBE2.out).1).trans HBE2.out
          generalize hw3 : Lib.bytesWorld w2 5 x.value = w3 at *
          have HW3E := Lib.hid hw3
          have HW3 := Lib.hid hW3; have HROW3 := Lib.hid hrow3; have HLOW3 := Lib.hid hlow3; have HOBJ3 := Lib.hid hobj3; have HBE3 := Lib.hid hbe3; have HB3 := Lib.hid b3
          clear hW3 hrow3 hlow3 hobj3 hbe3 hby bby hnl b3 hw3
          have tok : True := trivial
          go_wp2_with (have _t := tok; refine cvb rfl _ rfl rfl ?_; clear tok; rw [HW3E.out])
          refine HTKE.out.mono ?_
          rintro e w4 (⟨hfull, rfl, b4⟩ | ⟨hfit, vl, vf', rfl, tk4, hvl, hW4⟩)
          · have hbe4 := (b4.block be (Array.getElem?_eq_some_iff.1 HBE3.out).1).trans HBE3.out
            have cbe4 : w4.cell? ⟨be, 0, none⟩ = some x0e := by rw [cell_of_row _ _ _ _ _ _ hbe4]; rfl
            have fbe4 : w4.frozen? ⟨be, 0, none⟩ = false := frozen_of_row _ _ _ _ _ hbe4
            have HB4 := Lib.hid (HB3.out.trans (b4.mono (by have := HB3.out.size; omega)))
            have HNO := Lib.hid (show s0.puts l = none by
              rw [← List.take_append_drop (k + 1) l, WS.puts_append, HTK1.out, WS.puts_snoc, HS.out]
              simp only [Option.bind_some]
              have : s.put x = none := by
                rw [nameBytes_length] at hfull
                simp [WS.put, HD.out, hfull]
              rw [this]; rfl)
            have HBE4 := Lib.hid hbe4
            clear hbe4 b4 hfull
            go_wp2
            exact HRT.out _ _ _ _ _ _ _ _ _ _ _ _ _ _ _ _ _ _ _ _ _ _ _ _ _ _ _ _ _ _ _ _ _ _ _ _ _ _ _ _ _ _ _ _ _ _ _ w4 HB4.out HNO.out HBE4.out
          · rw [nameBytes_length] at hfit hvl hW4
            obtain ⟨cw, hcw⟩ : ∃ cw, w3.heap[bw]? = some (.cells cw 87 (0, 0)) := by obtain ⟨vp, vl', h1, _⟩ := HW3.out.rows; exact ⟨_, h1⟩
            have hrow4 := HROW3.out.tk HLOW3.out tk4 hcw
            have hlow4 : ∀ p ∈ ps1, IntsLow base w4 p.2 p.1.pages := fun p hp => tk4.ints (HLOW3.out p hp) hcw
            have hobj4 := tk4.row HOBJ3.out (by rintro rfl; have := HOBJ3.out; rw [hcw] at this; simp at this) (by decide) (by decide)
            have hbe4 := tk4.row HBE3.out (by rintro rfl; have := HBE3.out; rw [hcw] at this; simp at this) (by decide) (by decide)
            have b4 := HB3.out.trans (tk4.below hnbw hnbase (by have := HB3.out.size; omega))
            obtain ⟨d0, d1, d2⟩ := cells3 hobj4
            have hs4 := b4.size
            -- the entry laid
            have bl : ∀ o, Below w4.heap.size w4 (w4.alloc o) := fun o => (Below.refl _ w4).alloc (Nat.le_refl _) _
            have hone : OneAt (w4.alloc (.cells #[.string x.name, .int .i64 (x.value.size : Int), vl] 94)) w4.heap.size (⟨x.name, x.value.size, s.free.take (parts x.value.size)⟩, vl) := ⟨heap_alloc_new w4 _, (hvl.below (bl _) (Nat.le_refl _)).at_⟩
            have hrow5 := hrow4.below (bl (.cells #[.string x.name, .int .i64 (x.value.size : Int), vl] 94)) (Nat.le_refl _)
            have hlow5 : ∀ p ∈ ps1, IntsLow base (w4.alloc (.cells #[.string x.name, .int .i64 (x.value.size : Int), vl] 94)) p.2 p.1.pages := fun p hp => (hlow4 p hp).below (bl _) (Nat.le_refl _)
            have hvl5 := hvl.below (bl (.cells #[.string x.name, .int .i64 (x.value.size : Int), vl] 94)) (Nat.le_refl _)
            have hW5 := hW4.below (bl (.cells #[.string x.name, .int .i64 (x.value.size : Int), vl] 94)) (Nat.le_refl _)
            have hbe5 := ((bl (.cells #[.string x.name, .int .i64 (x.value.size : Int), vl] 94)).block be (Array.getElem?_eq_some_iff.1 hbe4).1).trans hbe4
            have b5 := b4.trans ((bl (.cells #[.string x.name, .int .i64 (x.value.size : Int), vl] 94)).mono (by omega))
            have hgx : ∀ a n c, v5n = .slice (some a) n c → w4.heap.size ≠ a.block := fun a n c hv => by
              have := (hrow4.own.lt a.block (by rw [hv]; rfl)).2
              omega
            obtain ⟨w5, hw5⟩ : ∃ w5, w4.alloc (.cells #[.string x.name, .int .i64 (x.value.size : Int), vl] 94) = w5 := ⟨_, rfl⟩
            rw [hw5] at hone hrow5 hlow5 hvl5 hW5 hbe5 b5
            have hins := insert_any w5 n0 v5n ps1 hrow5 (by have := b5.size; omega) (by omega) (atB s.es x.name) hile w4.heap.size hgx _ hone
            have HINS := Lib.hid hins; have HLOW5 := Lib.hid hlow5; have HVL5 := Lib.hid hvl5; have HW5 := Lib.hid hW5; have HBE5 := Lib.hid hbe5; have HB5 := Lib.hid b5
            obtain ⟨Al, cl, hvlv, _⟩ := hvl
            rw [show (s.free.take (parts x.value.size)).length = parts x.value.size by rw [List.length_take]; omega] at hvlv
            subst hvlv
            have HPUT := Lib.hid (show s0.puts (l.take (k + 1)) = some _ by rw [HTK1.out, WS.puts_snoc, HS.out]; simp [WS.put, HD.out, Nat.not_lt.2 hfit]; rfl)
            clear hins hlow5 hvl5 hW5 hbe5 b5 hone hrow5 bl hrow4 hlow4 hobj4 hbe4 b4 hW4 tk4 hgx hcw
            go_wp2_with fail
            refine HINS.out.mono ?_
            rintro e w6 ⟨v6, rfl, hrow6, b6, k6⟩
            have HROW6 := Lib.hid hrow6
            have HLOW6 := Lib.hid (show ∀ p ∈ ps1.take (atB s.es x.name) ++ (⟨x.name, x.value.size, s.free.take (parts x.value.size)⟩, Value.slice Al (parts x.value.size) cl) :: ps1.drop (atB s.es x.name), IntsLow base w6 p.2 p.1.pages from fun p hp => by
              rcases List.mem_append.1 hp with hp | hp
              · exact (HLOW5.out p (List.mem_of_mem_take hp)).keeps k6
              · rcases List.mem_cons.1 hp with rfl | hp
                · exact HVL5.out.keeps k6
                · exact (HLOW5.out p (List.mem_of_mem_drop hp)).keeps k6)
            have HW6 := Lib.hid (HW5.out.keeps k6)
            have HBE6 := Lib.hid (k6.row HBE5.out (by decide))
            have HB6 := Lib.hid (HB5.out.trans b6)
            clear hrow6 b6 k6
            go_wp2
            go_roundw
            case rel => exact ⟨k + 1, by omega, by go_num, _, _, vf', HPUT.out, by rw [ents_mid, HPS1.out], HROW6.out, HLOW6.out, HW6.out, HB6.out, HBE6.out⟩
            case measure => simp [intOf]; omega

      | false =>
        have HROW2 := Lib.hid hrow1; have HLOW2 := Lib.hid hlow1; have HW2 := Lib.hid hW1; have HBE2 := Lib.hid hbe1; have HB2 := Lib.hid hb1; have HOBJ2 := Lib.hid hobj1
        have HPS1 := Lib.hid (show ents ps = dropB s.es x.name by rw [HPS.out]; unfold dropB; rw [HI.out]; rfl)
        have hile : atB s.es x.name ≤ ps.length := by rw [HLEN.out]; exact hile0
        have hmany1 : ps.length ≤ 30000 := hmany
        have hn2 : n0 ≤ w1.heap.size := by omega
        clear hrow1 hlow1 hW1 hbe1 hb1 hobj1 hisat
        obtain ⟨ps1, hps1e⟩ : ∃ ps1, ps1 = ps := ⟨_, rfl⟩
        obtain ⟨w2, hw2e⟩ : ∃ w2, w2 = w1 := ⟨_, rfl⟩
        subst hps1e hw2e
        generalize hD : x.drop = d at *
        have HD := Lib.hid hD; clear hD
        cases d with
        | true =>
          have HPUT := Lib.hid (show s0.puts (l.take (k + 1)) = some { s with es := dropB s.es x.name } by rw [HTK1.out, WS.puts_snoc, HS.out]; simp [WS.put, HD.out])
          go_wp2
          go_roundw
          case rel => exact ⟨k + 1, by omega, by go_num, { s with es := dropB s.es x.name }, ps1, vf, HPUT.out, HPS1.out, HROW2.out, HLOW2.out, HW2.out, HB2.out, HBE2.out⟩
          case measure => simp [intOf]; omega
        | false =>
          obtain ⟨hby, bby⟩ := bytes_at w2 x.value (by omega)
          have hW3 := HW2.out.below bby (Nat.le_refl _)
          have hnl := nameBytes_length x.value
          have htk := take_any (Lib.bytesWorld w2 5 x.value) base bw vf _ s.free s.pgs s.places (nameBytes x.value) hW3 hby (by rw [hnl]; omega) (by omega) (by omega) (by omega)
          have HTKE := Lib.hid htk; clear htk
          have b3 : Below n0 w (Lib.bytesWorld w2 5 x.value) := HB2.out.trans (bby.mono hn2)
          have hrow3 := HROW2.out.below bby (Nat.le_refl _)
          have hlow3 : ∀ p ∈ ps1, IntsLow base (Lib.bytesWorld w2 5 x.value) p.2 p.1.pages := fun p hp => (HLOW2.out p hp).below bby (Nat.le_refl _)
          have hobj3 := (bby.block g46 (Array.getElem?_eq_some_iff.1 HOBJ2.out).1).trans HOBJ2.out
          have hbe3 := (bby.block be (Array.getElem?_eq_some_iff.1 HBE2.out).1).trans HBE2.out
          generalize hw3 : Lib.bytesWorld w2 5 x.value = w3 at *
          have HW3E := Lib.hid hw3
          have HW3 := Lib.hid hW3; have HROW3 := Lib.hid hrow3; have HLOW3 := Lib.hid hlow3; have HOBJ3 := Lib.hid hobj3; have HBE3 := Lib.hid hbe3; have HB3 := Lib.hid b3
          clear hW3 hrow3 hlow3 hobj3 hbe3 hby bby hnl b3 hw3
          have tok : True := trivial
          go_wp2_with (have _t := tok; refine cvb rfl _ rfl rfl ?_; clear tok; rw [HW3E.out])
          refine HTKE.out.mono ?_
          rintro e w4 (⟨hfull, rfl, b4⟩ | ⟨hfit, vl, vf', rfl, tk4, hvl, hW4⟩)
          · have hbe4 := (b4.block be (Array.getElem?_eq_some_iff.1 HBE3.out).1).trans HBE3.out
            have cbe4 : w4.cell? ⟨be, 0, none⟩ = some x0e := by rw [cell_of_row _ _ _ _ _ _ hbe4]; rfl
            have fbe4 : w4.frozen? ⟨be, 0, none⟩ = false := frozen_of_row _ _ _ _ _ hbe4
            have HB4 := Lib.hid (HB3.out.trans (b4.mono (by have := HB3.out.size; omega)))
            have HNO := Lib.hid (show s0.puts l = none by
              rw [← List.take_append_drop (k + 1) l, WS.puts_append, HTK1.out, WS.puts_snoc, HS.out]
              simp only [Option.bind_some]
              have : s.put x = none := by
                rw [nameBytes_length] at hfull
                simp [WS.put, HD.out, hfull]
              rw [this]; rfl)
            have HBE4 := Lib.hid hbe4
            clear hbe4 b4 hfull
            go_wp2
            exact HRT.out _ _ _ _ _ _ _ _ _ _ _ _ _ _ _ _ _ _ _ _ _ _ _ _ _ _ _ _ _ _ _ _ _ _ _ _ _ _ _ _ _ _ _ _ _ _ _ w4 HB4.out HNO.out HBE4.out
          · rw [nameBytes_length] at hfit hvl hW4
            obtain ⟨cw, hcw⟩ : ∃ cw, w3.heap[bw]? = some (.cells cw 87 (0, 0)) := by obtain ⟨vp, vl', h1, _⟩ := HW3.out.rows; exact ⟨_, h1⟩
            have hrow4 := HROW3.out.tk HLOW3.out tk4 hcw
            have hlow4 : ∀ p ∈ ps1, IntsLow base w4 p.2 p.1.pages := fun p hp => tk4.ints (HLOW3.out p hp) hcw
            have hobj4 := tk4.row HOBJ3.out (by rintro rfl; have := HOBJ3.out; rw [hcw] at this; simp at this) (by decide) (by decide)
            have hbe4 := tk4.row HBE3.out (by rintro rfl; have := HBE3.out; rw [hcw] at this; simp at this) (by decide) (by decide)
            have b4 := HB3.out.trans (tk4.below hnbw hnbase (by have := HB3.out.size; omega))
            obtain ⟨d0, d1, d2⟩ := cells3 hobj4
            have hs4 := b4.size
            -- the entry laid
            have bl : ∀ o, Below w4.heap.size w4 (w4.alloc o) := fun o => (Below.refl _ w4).alloc (Nat.le_refl _) _
            have hone : OneAt (w4.alloc (.cells #[.string x.name, .int .i64 (x.value.size : Int), vl] 94)) w4.heap.size (⟨x.name, x.value.size, s.free.take (parts x.value.size)⟩, vl) := ⟨heap_alloc_new w4 _, (hvl.below (bl _) (Nat.le_refl _)).at_⟩
            have hrow5 := hrow4.below (bl (.cells #[.string x.name, .int .i64 (x.value.size : Int), vl] 94)) (Nat.le_refl _)
            have hlow5 : ∀ p ∈ ps1, IntsLow base (w4.alloc (.cells #[.string x.name, .int .i64 (x.value.size : Int), vl] 94)) p.2 p.1.pages := fun p hp => (hlow4 p hp).below (bl _) (Nat.le_refl _)
            have hvl5 := hvl.below (bl (.cells #[.string x.name, .int .i64 (x.value.size : Int), vl] 94)) (Nat.le_refl _)
            have hW5 := hW4.below (bl (.cells #[.string x.name, .int .i64 (x.value.size : Int), vl] 94)) (Nat.le_refl _)
            have hbe5 := ((bl (.cells #[.string x.name, .int .i64 (x.value.size : Int), vl] 94)).block be (Array.getElem?_eq_some_iff.1 hbe4).1).trans hbe4
            have b5 := b4.trans ((bl (.cells #[.string x.name, .int .i64 (x.value.size : Int), vl] 94)).mono (by omega))
            have hgx : ∀ a n c, u5 = .slice (some a) n c → w4.heap.size ≠ a.block := fun a n c hv => by
              have := (hrow4.own.lt a.block (by rw [hv]; rfl)).2
              omega
            obtain ⟨w5, hw5⟩ : ∃ w5, w4.alloc (.cells #[.string x.name, .int .i64 (x.value.size : Int), vl] 94) = w5 := ⟨_, rfl⟩
            rw [hw5] at hone hrow5 hlow5 hvl5 hW5 hbe5 b5
            have hins := insert_any w5 n0 u5 ps1 hrow5 (by have := b5.size; omega) (by omega) (atB s.es x.name) hile w4.heap.size hgx _ hone
            have HINS := Lib.hid hins; have HLOW5 := Lib.hid hlow5; have HVL5 := Lib.hid hvl5; have HW5 := Lib.hid hW5; have HBE5 := Lib.hid hbe5; have HB5 := Lib.hid b5
            obtain ⟨Al, cl, hvlv, _⟩ := hvl
            rw [show (s.free.take (parts x.value.size)).length = parts x.value.size by rw [List.length_take]; omega] at hvlv
            subst hvlv
            have HPUT := Lib.hid (show s0.puts (l.take (k + 1)) = some _ by rw [HTK1.out, WS.puts_snoc, HS.out]; simp [WS.put, HD.out, Nat.not_lt.2 hfit]; rfl)
            clear hins hlow5 hvl5 hW5 hbe5 b5 hone hrow5 bl hrow4 hlow4 hobj4 hbe4 b4 hW4 tk4 hgx hcw
            go_wp2_with fail
            refine HINS.out.mono ?_
            rintro e w6 ⟨v6, rfl, hrow6, b6, k6⟩
            have HROW6 := Lib.hid hrow6
            have HLOW6 := Lib.hid (show ∀ p ∈ ps1.take (atB s.es x.name) ++ (⟨x.name, x.value.size, s.free.take (parts x.value.size)⟩, Value.slice Al (parts x.value.size) cl) :: ps1.drop (atB s.es x.name), IntsLow base w6 p.2 p.1.pages from fun p hp => by
              rcases List.mem_append.1 hp with hp | hp
              · exact (HLOW5.out p (List.mem_of_mem_take hp)).keeps k6
              · rcases List.mem_cons.1 hp with rfl | hp
                · exact HVL5.out.keeps k6
                · exact (HLOW5.out p (List.mem_of_mem_drop hp)).keeps k6)
            have HW6 := Lib.hid (HW5.out.keeps k6)
            have HBE6 := Lib.hid (k6.row HBE5.out (by decide))
            have HB6 := Lib.hid (HB5.out.trans b6)
            clear hrow6 b6 k6
            go_wp2
            go_roundw
            case rel => exact ⟨k + 1, by omega, by go_num, _, _, vf', HPUT.out, by rw [ents_mid, HPS1.out], HROW6.out, HLOW6.out, HW6.out, HB6.out, HBE6.out⟩
            case measure => simp [intOf]; omega

    · obtain rfl : k = l.length := by omega
      have hge : (l.length : Int) ≤ (l.length : Int) := Int.le_refl _
      rw [List.take_length] at hs HS
      have HROW := Lib.hid hrow; have HLOW := Lib.hid hlow; have HW := Lib.hid hW; have HBE := Lib.hid hbe; have HB := Lib.hid hb
      clear hrow hlow hW hbe hb hs hps
      go_wp2
      exact HEX.out _ _ _ _ _ _ _ _ _ _ _ _ _ _ _ _ _ _ _ _ _ _ _ _ _ _ _ _ _ _ _ _ _ _ _ _ _ _ _ _ _ _ _ _ _ _ _ vf ps s wr HS.out HPS.out HROW.out HLOW.out HW.out HB.out HBE.out
end Go.Proofs.Ytcgapfmdpchemaa
