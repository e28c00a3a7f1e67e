/- Rows of entries turned: what Delete and Insert need. No function is walked here but Delete. -/
import Derived.Test.YtcgapfmdpchemaaRefused
import Derived.Deep.RegionLaw
namespace Go.Proofs.Ytcgapfmdpchemaa
open Go.RowKit
/-- cells laid over others, from a place on -/
def splV (L : List Value) (off : Nat) (cs : List Value) : List Value := L.take off ++ cs ++ L.drop (off + cs.length)
theorem splV_length (L : List Value) (off : Nat) (cs : List Value) (h : off + cs.length ≤ L.length) : (splV L off cs).length = L.length := by simp [splV]; omega
theorem setCells_row (g t : Nat) : ∀ (vs : List Value) (o : Nat) (cur : List Value) (w : World), w.heap[g]? = some (.cells cur.toArray t (0, 0)) → o + vs.length ≤ cur.length →
    (w.setCells g o vs).heap[g]? = some (.cells (splV cur o vs).toArray t (0, 0)) ∧ Only g w (w.setCells g o vs)
  | [], o, cur, w, hg, _ => by simpa [World.setCells, splV] using ⟨hg, Only.refl g w⟩
  | v :: r, o, cur, w, hg, hl => by
    simp only [List.length_cons] at hl
    have h1 := heap_setCell_same w g o _ t v hg
    have h2 : (cur.toArray.setIfInBounds o v) = (cur.set o v).toArray := by simp
    rw [h2] at h1
    have hO : Only g w (w.setCell ⟨g, o, none⟩ v) := ⟨rfl, rfl, rfl, by simp [World.setCell], fun k hk => heap_setCell_other w ⟨g, o, none⟩ k v hk⟩
    obtain ⟨ha, hb⟩ := setCells_row g t r (o + 1) (cur.set o v) _ h1 (by simp; omega)
    refine ⟨?_, hO.trans hb⟩
    rw [World.setCells, ha]
    congr 3
    unfold splV
    have e1 : (cur.set o v).take (o + 1) = cur.take o ++ [v] := by
      rw [List.take_succ_eq_append_getElem (by simp; omega), List.take_set_of_le (Nat.le_refl _)]
      simp
    have e2 : (cur.set o v).drop (o + 1 + r.length) = cur.drop (o + (r.length + 1)) := by
      rw [List.drop_set_of_lt (by omega)]
      congr 1; omega
    rw [e1, e2]
    simp
theorem cut_some (g s l m : Nat) : ∃ off, cut (some ⟨g, 0, none⟩) l m s = some ⟨g, off, none⟩ ∧ (m ≠ l → off = l * s) := by
  unfold cut
  by_cases h : m = l
  · exact ⟨0, by rw [if_pos h], fun h' => absurd h h'⟩
  · exact ⟨l * s, by rw [if_neg h, Option.map_some, Addr.add_lit, Nat.zero_add], fun _ => rfl⟩
/-- a row of entries in its block -/
structure EntIn (w : World) (base g n cap : Nat) (ps : List (DE × Value)) : Prop where
  len : ps.length = n
  base_ : base ≤ g
  fit : n ≤ cap
  cap_ : cap ≤ maxLen
  row : ∃ rest : List Value, rest.length = (cap - n) * 3 ∧ w.heap[g]? = some (.cells (ps.flatMap peCells ++ rest).toArray 94 (0, 0))
  at_ : ∀ p ∈ ps, IntsAt w p.2 p.1.pages
theorem EntRow.inRow {w : World} {base : Nat} {v : Value} {ps : List (DE × Value)} (h : EntRow w base v ps) (h0 : ps ≠ []) : ∃ g cap, v = .slice (some ⟨g, 0, none⟩) ps.length cap ∧ EntIn w base g ps.length cap ps := by
  obtain ⟨hl, h2⟩ := h.own
  rcases h2 with ⟨rfl, hz⟩ | ⟨g, cap, cur, rfl, hb, hg, hnc, hcm, hcs, ht⟩
  · exact absurd (List.length_eq_zero_iff.1 hz) h0
  · refine ⟨g, cap, rfl, rfl, hb, hnc, hcm, ⟨cur.toList.drop (ps.length * 3), ?_, ?_⟩, h.at_⟩
    · rw [List.length_drop, Array.length_toList, hcs, Nat.sub_mul]
    · rw [← ht, List.take_append_drop]; exact hg
theorem EntIn.entRow {w : World} {base g n cap : Nat} {ps : List (DE × Value)} (h : EntIn w base g n cap ps) : EntRow w base (.slice (some ⟨g, 0, none⟩) n cap) ps := by
  obtain ⟨rest, hr, hg⟩ := h.row
  have hn := h.len
  have hf := h.fit
  refine ⟨⟨by rw [peCells_length], .inr ⟨g, cap, _, by rw [hn], h.base_, hg, by omega, h.cap_, ?_, ?_⟩⟩, h.at_⟩
  · rw [List.size_toArray, List.length_append, peCells_length, hr, hn, ← Nat.add_mul]; congr 1; omega
  · rw [List.take_left' (peCells_length ps)]
/-- nothing that was there has turned but cells of one type -/
structure Keeps (T : Nat) (w w' : World) : Prop where
  os : w'.os = w.os
  tape : w'.tape = w.tape
  output : w'.output = w.output
  size : w.heap.size ≤ w'.heap.size
  block : ∀ k, k < w.heap.size → (∀ cs fr, w.heap[k]? ≠ some (.cells cs T fr)) → w'.heap[k]? = w.heap[k]?
theorem Keeps.trans {T : Nat} {a b c : World} (h : Keeps T a b) (k : Keeps T b c) : Keeps T a c :=
  ⟨k.os.trans h.os, k.tape.trans h.tape, k.output.trans h.output, Nat.le_trans h.size k.size, fun i hi hn => by
    have e := h.block i hi hn
    exact (k.block i (Nat.lt_of_lt_of_le hi h.size) (fun cs fr he => hn cs fr (e.symm.trans he))).trans e⟩
theorem Keeps.of_below {T : Nat} {a b : World} (h : Below a.heap.size a b) : Keeps T a b := ⟨h.os, h.tape, h.output, h.size, fun k hk _ => h.block k hk⟩
theorem Keeps.of_only {T g : Nat} {a b : World} (h : Only g a b) {cs : Array Value} {fr : Nat × Nat} (hg : a.heap[g]? = some (.cells cs T fr)) : Keeps T a b :=
  ⟨h.os, h.tape, h.output, Nat.le_of_eq h.size.symm, fun k _ hn => h.block k (by rintro rfl; exact hn _ _ hg)⟩
theorem Keeps.of_grown {T base size n : Nat} {v : Value} {xs : List Value} {a b : World} (ho : a.ownsRow base T size v n xs) (hg : a.grownBy b v.ownBlock) : Keeps T a b :=
  ⟨hg.os, hg.tape, hg.output, hg.size, fun k hk hn => hg.block k hk fun hc => by
    obtain ⟨cs, h'⟩ := own_elem ho hc.symm
    exact hn _ _ h'⟩
theorem Keeps.row {T : Nat} {a b : World} (h : Keeps T a b) {k t : Nat} {cs : Array Value} {fr : Nat × Nat} (hk : a.heap[k]? = some (.cells cs t fr)) (ht : t ≠ T) : b.heap[k]? = some (.cells cs t fr) :=
  (h.block k (Array.getElem?_eq_some_iff.1 hk).1 fun cs' fr' h' => by rw [hk] at h'; simp at h'; exact ht h'.2.1).trans hk
end Go.Proofs.Ytcgapfmdpchemaa
/- The walk of slices.Delete at entries. -/
namespace Go.Proofs.Ytcgapfmdpchemaa
open Go.RowKit
def z3 : List Value := [.string ByteArray.empty, .int .i64 0, .slice none 0 0]
theorem zero94 (w : World) : (zeroValue 94).run Try.prog w = .ok (.agg z3.toArray) w := by kernel_rfl
/-- clear of one entry -/
theorem clr83 {ops : Array Oper} {rest : List Oper} {o : Oper} {a : Act} {w : World} {Q : Exit → Act → World → Prop} (hgd : o.guard = none) (x : Operand)
    (ho : o.op = .call { callee := .builtin .clear, args := #[x], argTypes := #[83] }) {g off c : Nat} (hx : a.eval x = .slice (some ⟨g, off, none⟩) 1 c) {L : List Value} {t : Nat}
    (hg : w.heap[g]? = some (.cells L.toArray t (0, 0))) (hle : off + 3 ≤ L.length)
    (h : ∀ w', w'.heap[g]? = some (.cells (splV L off z3).toArray t (0, 0)) → Only g w w' → wpList Try.prog ops Q rest (a.put o.dst (.tuple #[])) w') : wpList Try.prog ops Q (o :: rest) a w :=
  wpList_plain hgd fun K hK => by
    have hs := run_storeCells_at Try.prog g off t z3 0 L.toArray w hg (by simpa [z3] using hle) (by simp [z3, Value.oneCell'])
    rw [Nat.add_zero] at hs
    have hz : (Builtin.zeroCells z3.toArray 1).toList = z3 := by kernel_rfl
    have hr : (Builtin.clear_ #[83] o.type #[.slice (some ⟨g, off, none⟩) 1 c]).run Try.prog w = .ok (.tuple #[]) (w.setRow g (splV L off z3).toArray) := by
      have e1 : L.toArray.toList.take off ++ z3 ++ L.toArray.toList.drop (off + z3.length) = splV L off z3 := rfl
      rw [e1] at hs
      have hz2 : (Builtin.zeroCells #[Value.string { data := #[] }, .int .i64 0, .slice none 0 0] 1).toList = z3 := by kernel_rfl
      simp [Builtin.clear_, run_underlying Try.underlying83, Value.cells, hz2, hs]
    unfold Oper.wp execOp
    simp only [ho, resolve, invoke, builtin, Sem.run_bind, Sem.run_pure, Result.andThen_ok, List.map_toArray, List.map_cons, List.map_nil, hx, hr]
    exact hK _ _ (h _ (setRow_heap w g _ _ t _ hg) (Only.setRow w g _))
theorem IntsAt.only {w w' : World} {sl : Value} {pages : List Nat} (h : IntsAt w sl pages) {g : Nat} (hO : Only g w w') {L : Array Value} {fr : Nat × Nat} (hg : w.heap[g]? = some (.cells L 94 fr)) : IntsAt w' sl pages :=
  h.kept fun b cs fr' hb => hO.block b fun he => by
    subst he
    rw [hg] at hb
    simp at hb
set_option maxRecDepth 1000000 in
set_option maxHeartbeats 1000000 in
theorem delete_any (w : World) (base : Nat) (v : Value) (ps : List (DE × Value)) (h : EntRow w base v ps) (_hb : base ≤ w.heap.size) (i : Nat) (hi : i < ps.length) (hmany : ps.length ≤ 1000000) :
    Calls Try.prog 37 #[v, .int .i64 i, .int .i64 ((i + 1 : Nat) : Int)] w fun e w' => ∃ v', e = .returned v' ∧ EntRow w' base v' (ps.take i ++ ps.drop (i + 1)) ∧ Below base w w' ∧ Keeps 94 w w' := by
  obtain ⟨g, cap, rfl, hin⟩ := h.inRow (by rintro rfl; simp at hi)
  obtain ⟨m, hm⟩ : ∃ m, ps.length = i + 1 + m := ⟨ps.length - (i + 1), by omega⟩
  have hfit := hin.fit
  obtain ⟨x, hx⟩ : ∃ x, cap = i + 1 + m + x := ⟨cap - (i + 1 + m), by omega⟩
  obtain ⟨rst, hrl, hg⟩ := hin.row
  have hcapm := hin.cap_
  have HM := Lib.hid hm
  subst hx
  rw [hm] at hfit hrl ⊢
  clear hm
  go_enter Try.func37, Try.ntmps37
  obtain ⟨off3, hoff, hoff3⟩ := cut_some g 3 (i + 1) (i + 1 + m + x)
  have hs2 : ∀ W : World, (Instr.sliceAt 83 (.slice (some ⟨g, 0, none⟩) (i + 1 + m) (i + 1 + m + x)) none (some (.int .i64 (i : Int))) none).run Try.prog W = .ok (.slice (some ⟨g, 0, none⟩) i (i + 1 + m + x)) W := fun W => by
    have := run_cut Try.underlying83 size94 W (some ⟨g, 0, none⟩) (i + 1 + m) (i + 1 + m + x) none (some (.int .i64 (i : Int))) none 0 i (i + 1 + m + x) (by simp only [Instr.sliceBounds, Sem.run_bind, Sem.run_pure, Result.andThen_ok, bound_ok _ _ _ _ (show i ≤ i + 1 + m + x by omega)])
    rw [this]
    have e1 : cut (some ⟨g, 0, none⟩) 0 (i + 1 + m + x) 3 = some ⟨g, 0, none⟩ := by
      obtain ⟨o, h1, h2⟩ := cut_some g 3 0 (i + 1 + m + x)
      rw [h1, h2 (by omega), Nat.zero_mul]
    rw [e1]; rfl
  have hs3 : ∀ W : World, (Instr.sliceAt 83 (.slice (some ⟨g, 0, none⟩) (i + 1 + m) (i + 1 + m + x)) (some (.int .i64 ((i : Int) + 1))) none none).run Try.prog W = .ok (.slice (some ⟨g, off3, none⟩) m (m + x)) W := fun W => by
    have := run_cut Try.underlying83 size94 W (some ⟨g, 0, none⟩) (i + 1 + m) (i + 1 + m + x) (some (.int .i64 ((i : Int) + 1))) none none (i + 1) (i + 1 + m) (i + 1 + m + x) (by
      have e : (i : Int) + 1 = ((i + 1 : Nat) : Int) := by omega
      rw [e]
      simp only [Instr.sliceBounds, Sem.run_bind, Sem.run_pure, Result.andThen_ok, bound_ok _ _ _ _ (show i + 1 ≤ i + 1 + m by omega)])
    rw [this, hoff, show i + 1 + m - (i + 1) = m by omega, show i + 1 + m + x - (i + 1) = m + x by omega]
  have hg' : w.drew.heap[g]? = some (.cells (ps.flatMap peCells ++ rst).toArray 94 (0, 0)) := hg
  have hll : (ps.flatMap peCells ++ rst).length = (i + 1 + m + x) * 3 := by rw [List.length_append, peCells_length, hrl, HM.out]; omega
  have hnl : ((ps.drop (i + 1)).flatMap peCells).length = m * 3 := by rw [peCells_length, List.length_drop, HM.out]; congr 1; omega
  have hnews : ∀ j u, ((ps.drop (i + 1)).flatMap peCells)[j]? = some u → w.drew.cell? ((⟨g, off3, none⟩ : Addr).add j) = some u := fun j u hu => by
    obtain ⟨hj, rfl⟩ := List.getElem?_eq_some_iff.1 hu
    rw [hnl] at hj
    have hm0 : i + 1 + m + x ≠ i + 1 := by omega
    rw [Addr.add_lit, hoff3 hm0, cell_of_row _ _ _ _ _ _ hg']
    have := flat_drop ps (i + 1)
    simp only [← this] at hu ⊢
    rw [List.getElem?_drop] at hu
    rw [List.getElem?_toArray, List.getElem?_append_left (by rw [peCells_length, HM.out]; omega), hu]
  have hone : ∀ u ∈ (ps.drop (i + 1)).flatMap peCells, u.oneCell' = true := fun u hu => by
    obtain ⟨p, hp, hup⟩ := List.mem_flatMap.1 hu
    obtain ⟨A, c, hv, _⟩ := hin.at_ p (List.mem_of_mem_drop hp)
    simp only [peCells, List.mem_cons, List.not_mem_nil, or_false] at hup
    rcases hup with rfl | rfl | rfl
    · rfl
    · rfl
    · rw [hv]; rfl
  have hspare : ∀ j, j < ((ps.drop (i + 1)).flatMap peCells).length → (w.drew.cell? ⟨g, 0 + i * 3 + j, none⟩).isSome = true ∧ w.drew.frozen? ⟨g, 0 + i * 3 + j, none⟩ = false := fun j hj => by
    rw [hnl] at hj
    refine ⟨?_, frozen_of_row _ _ _ _ _ hg'⟩
    rw [cell_of_row _ _ _ _ _ _ hg']
    rw [List.getElem?_toArray, List.getElem?_eq_getElem (by rw [hll]; omega)]
    rfl
  have HN := Lib.hid hnl; have HLL := Lib.hid hll
  obtain ⟨i0, hi0, hz0, hz1, hz2⟩ := info_parts info94
  generalize hNW : (ps.drop (i + 1)).flatMap peCells = news at *
  clear hnl hll hz0 hz2
  go_wp2_with fail
  go_region_law (refine step_append_room rfl _ _ 83 rfl 94 i0 3 Try.underlying83 hi0 hz1 g 0 i (i + 1 + m + x) rfl ⟨g, off3, none⟩ m (m + x) news rfl HN.out hnews hone (by omega) hspare ?_)
  obtain ⟨hrow1, hO1⟩ := setCells_row g 94 news (i * 3) (ps.flatMap peCells ++ rst) w.drew hg' (by rw [HN.out, HLL.out]; omega)
  have HLEN := Lib.hid (splV_length (ps.flatMap peCells ++ rst) (i * 3) news (by rw [HN.out, HLL.out]; omega))
  generalize hW1 : w.drew.setCells g (i * 3) news = w1 at *
  have H1 := Lib.hid hrow1; have HNW := Lib.hid hNW; have HW1 := Lib.hid hW1
  clear hrow1 hs2 hs3 hnews hone hspare hNW hW1 hg' hg hoff hoff3 hrl
  have hle : (i + m) * 3 + 3 ≤ (splV (ps.flatMap peCells ++ rst) (i * 3) news).length := by rw [HLEN.out, HLL.out]; omega
  obtain ⟨off4, hc4, hoff4⟩ := cut_some g 3 (i + m) (i + 1 + m + x)
  have hc4' : cut (some ⟨g, 0, none⟩) (i + m) (i + 1 + m + x) 3 = some ⟨g, (i + m) * 3, none⟩ := by rw [hc4, hoff4 (by omega)]
  have HC4 := Lib.hid hc4'; clear hc4 hc4' hoff4
  have tok : True := trivial
  go_wp2_with (first | (have _t := tok; refine sl_lh Try.underlying83 size94 rfl _ _ _ rfl rfl (i + m) 1 (1 + x) rfl (by omega) rfl (by omega) (by omega) (by omega) ?_; clear tok; rw [HC4.out]) | (refine clr83 rfl _ rfl rfl H1.out hle ?_))
  intro w2 h2 hO2
  have hfin : EntRow w2 base (.slice (some ⟨g, 0, none⟩) (i + m) (i + 1 + m + x)) (ps.take i ++ ps.drop (i + 1)) := by
    have hlen2 : (ps.take i ++ ps.drop (i + 1)).length = i + m := by rw [List.length_append, List.length_take, List.length_drop, HM.out]; omega
    have hsp : ps.flatMap peCells = (ps.take i).flatMap peCells ++ (ps.drop i).flatMap peCells := by rw [← List.flatMap_append, List.take_append_drop]
    have hti : ((ps.take i).flatMap peCells).length = i * 3 := by rw [peCells_length, List.length_take, HM.out]; congr 1; omega
    refine EntIn.entRow ⟨hlen2, hin.base_, by omega, hcapm, ?_, fun p hp => ?_⟩
    · refine ⟨z3 ++ (splV (ps.flatMap peCells ++ rst) (i * 3) news).drop ((i + m) * 3 + 3), ?_, ?_⟩
      · rw [List.length_append, List.length_drop, HLEN.out, HLL.out]; simp [z3]; omega
      · rw [h2]
        congr 3
        unfold splV
        have e1 : ((ps.flatMap peCells ++ rst).take (i * 3) ++ news ++ (ps.flatMap peCells ++ rst).drop (i * 3 + news.length)).take ((i + m) * 3) = (ps.take i ++ ps.drop (i + 1)).flatMap peCells := by
          rw [List.flatMap_append, HNW.out]
          have e2 : (ps.flatMap peCells ++ rst).take (i * 3) = (ps.take i).flatMap peCells := by
            rw [hsp, List.append_assoc, List.take_left' hti]
          rw [e2, List.take_left' (by rw [List.length_append, hti, HN.out]; omega)]
        rw [e1, List.append_assoc]
        rfl
    · have hp' : p ∈ ps := by
        rcases List.mem_append.1 hp with h | h
        · exact List.mem_of_mem_take h
        · exact List.mem_of_mem_drop h
      obtain ⟨r0, _, hg0⟩ := hin.row
      exact (((hin.at_ p hp').only (w' := w1) (⟨hO1.os, hO1.tape, hO1.output, hO1.size, hO1.block⟩ : Only g w w1) hg0)).only hO2 H1.out
  have hB : Below base w w2 := (Below.refl base w).drew.trans ((hO1.below hin.base_).trans (hO2.below hin.base_))
  have HF := Lib.hid hfin; clear hfin
  obtain ⟨r0, _, hg0⟩ := hin.row
  have HK := Lib.hid ((Keeps.of_only (T := 94) (⟨hO1.os, hO1.tape, hO1.output, hO1.size, hO1.block⟩ : Only g w w1) hg0).trans (Keeps.of_only hO2 H1.out))
  clear hg0
  go_wp2
  go_ret
  exact ⟨_, rfl, HF.out, hB, HK.out⟩
end Go.Proofs.Ytcgapfmdpchemaa
