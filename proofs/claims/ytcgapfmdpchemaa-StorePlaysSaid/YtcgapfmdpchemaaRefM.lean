/- What the reference's Do needs besides: the work under way in its own terms, rows of entries, and its disk behind a Do. No function is walked here. -/
import Derived.Test.YtcgapfmdpchemaaRefL
namespace Go.Proofs.Ytcgapfmdpchemaa
open Go.RowKit
theorem WA.puts_append (l l2 : List Pt) : ∀ s : WA, s.puts (l ++ l2) = (s.puts l).bind fun s' => s'.puts l2 := by
  induction l with
  | nil => intro s; rfl
  | cons y l ih =>
    intro s
    simp only [List.cons_append, WA.puts]
    cases s.put y with
    | none => rfl
    | some s' => exact ih s'
theorem WA.puts_one (s : WA) (x : Pt) : s.puts [x] = s.put x := by
  simp only [WA.puts]
  cases s.put x <;> rfl
theorem WA.puts_succ {s s' : WA} {l : List Pt} {k : Nat} (hk : k < l.length) (h : s.puts (l.take k) = some s') : s.puts (l.take (k + 1)) = s'.put l[k] ∧ (s'.put l[k] = none → s.puts l = none) := by
  have h1 : s.puts (l.take (k + 1)) = s'.put l[k] := by
    rw [List.take_succ_eq_append_getElem hk, WA.puts_append, h, Option.bind_some, WA.puts_one]
  refine ⟨h1, fun hn => ?_⟩
  conv => lhs; rw [← List.take_append_drop (k + 1) l]
  rw [WA.puts_append, h1, hn]
  rfl
/-- the entries behind a name -/
def restA (es : List EA) (n : ByteArray) : List EA := if isB (es.map EA.de) n then es.drop (atB (es.map EA.de) n + 1) else es.drop (atB (es.map EA.de) n)
theorem dropA_rest (es : List EA) (n : ByteArray) : dropA es n = es.take (atB (es.map EA.de) n) ++ restA es n := by
  unfold dropA restA
  split
  · rfl
  · rw [List.take_append_drop]
theorem put_eq (s : WA) (x : Pt) : s.put x = if x.drop then some { s with es := s.es.take (atB s.des x.name) ++ restA s.es x.name } else if s.free.length < parts x.value.size then none else
    some ⟨s.es.take (atB s.des x.name) ++ ⟨x.name, x.value, s.free.take (parts x.value.size)⟩ :: restA s.es x.name, s.free.drop (parts x.value.size), s.places ++ s.free.take (parts x.value.size)⟩ := by
  unfold WA.put
  rw [dropA_rest]
  have hle : atB (s.es.map EA.de) x.name ≤ s.es.length := by have := atB_le (s.es.map EA.de) x.name; rwa [List.length_map] at this
  have hl : (s.es.take (atB (s.es.map EA.de) x.name)).length = atB (s.es.map EA.de) x.name := by rw [List.length_take]; omega
  rw [List.take_left' hl, List.drop_left' hl]
  rfl
theorem info144 : (Try.prog.info? 144).map (fun i => (i.zero, i.size, i.bytes)) = some (some (.agg #[.string ByteArray.empty, .string ByteArray.empty, .slice none 0 0]), 3, 56) := by kernel_rfl
theorem el112 : El 112 144 (.agg #[.string ByteArray.empty, .string ByteArray.empty, .slice none 0 0]) 3 56 := ⟨Try.underlying112, info144, rfl, by decide, by decide⟩
section
variable {w w' : World} {B eb m : Nat} {A : AD} {ps : List (EA × Value)} {v : Value}
theorem reCells_one (h : PgsAt w ps) : ∀ u ∈ ps.flatMap reCells, u.oneCell' = true := fun u hu => by
  obtain ⟨x, hx, hu⟩ := List.mem_flatMap.1 hu
  simp only [reCells, List.mem_cons, List.not_mem_nil, or_false] at hu
  rcases hu with rfl | rfl | rfl
  · rfl
  · rfl
  · obtain ⟨a, c, hv, _⟩ := h x hx
    rw [hv]; rfl
theorem PgsAt.mono {qs : List (EA × Value)} (h : PgsAt w ps) (hs : ∀ p ∈ qs, p ∈ ps) : PgsAt w qs := fun p hp => h p (hs p hp)
theorem PgsAt.append {qs : List (EA × Value)} (h : PgsAt w ps) (k : PgsAt w qs) : PgsAt w (ps ++ qs) := fun p hp => by
  rcases List.mem_append.1 hp with h1 | h1
  · exact h p h1
  · exact k p h1
/-- a row of entries of one's own -/
def OEnts (w : World) (base : Nat) (v : Value) (ps : List (EA × Value)) : Prop := ∃ g cap, v = .slice (some ⟨g, 0, none⟩) ps.length cap ∧ ps.length ≤ cap ∧ w.ownsRow base 144 3 v ps.length (ps.flatMap reCells)
theorem OEnts.of_own {base g n cap : Nat} (h : w.ownsRow base 144 3 (.slice (some ⟨g, 0, none⟩) n cap) n (ps.flatMap reCells)) : OEnts w base (.slice (some ⟨g, 0, none⟩) n cap) ps := by
  have hl := h.1
  rw [reCells_length] at hl
  have hn : n = ps.length := by omega
  subst hn
  refine ⟨g, cap, rfl, ?_, h⟩
  rcases h.2 with ⟨h1, _⟩ | ⟨g', cap', cur, h1, _, _, h4, _⟩
  · cases h1
  · cases h1; exact h4
theorem OEnts.trd {base : Nat} (h : OEnts w base v ps) : TRd w 144 v ps.length (ps.flatMap reCells) := by
  obtain ⟨g, cap, hv, _, ho⟩ := h
  exact TRd_own ho
theorem OEnts.below {base N : Nat} (h : OEnts w base v ps) (hb : Below N w w') (hN : w.heap.size ≤ N) : OEnts w' base v ps := by
  obtain ⟨g, cap, hv, h1, ho⟩ := h
  exact ⟨g, cap, hv, h1, own_below ho hb hN⟩
/-- es[:k] -/
theorem own_front {base g n cap k : Nat} (h : w.ownsRow base 144 3 (.slice (some ⟨g, 0, none⟩) n cap) n (ps.flatMap reCells)) (hk : k ≤ n) : w.ownsRow base 144 3 (.slice (some ⟨g, 0, none⟩) k cap) k ((ps.take k).flatMap reCells) := by
  have hl := h.1
  rcases h.2 with ⟨h1, _⟩ | ⟨g', cap', cur, h1, h2, h3, h4, h5, h6, h7⟩
  · cases h1
  · cases h1
    refine ⟨by rw [reCells_length] at hl ⊢; rw [List.length_take]; omega, .inr ⟨g, cap, cur, rfl, h2, h3, by omega, h5, h6, ?_⟩⟩
    rw [← rflat_take, ← h7, List.take_take, Nat.min_eq_left (by omega)]
/-- es[l:], as a walk leaves it -/
theorem TRd.back {g cap : Nat} (h : TRd w 144 (.slice (some ⟨g, 0, none⟩) ps.length cap) ps.length (ps.flatMap reCells)) (l : Nat) (hl : l ≤ ps.length) (hc : ps.length ≤ cap) : TRd w 144 (.slice (if cap = l then some ⟨g, 0, none⟩ else some ⟨g, l * 3, none⟩) (ps.length - l) (cap - l)) (ps.drop l).length ((ps.drop l).flatMap reCells) := by
  have hd : (ps.drop l).length = ps.length - l := List.length_drop
  have := h.cut (s := 3) (reCells_length ps) l (ps.length - l) (cap - l) (by omega) (by omega) (by omega)
  rw [rflat_drop, List.take_of_length_le (by rw [reCells_length, hd]; exact Nat.le_refl _)] at this
  rw [hd]
  unfold Ytcgapfmdpchemaa.cut at this
  rw [Option.map_some, Addr.add_lit, Nat.zero_add] at this
  exact this
theorem ivs_cut {F : List Nat} (l r : Nat) : (((ivs F).drop (l * 1)).take (r * 1)) = ivs ((F.drop l).take r) := by
  simp [ivs, List.map_take, List.map_drop]
/-- free[l:l+r], as a walk leaves it -/
theorem TRd.ints {g cap : Nat} {F : List Nat} (h : TRd w 3 (.slice (some ⟨g, 0, none⟩) F.length cap) F.length (ivs F)) (l r : Nat) (hl : l + r ≤ F.length) (hc : F.length ≤ cap) : TRd w 3 (.slice (if cap = l then some ⟨g, 0, none⟩ else some ⟨g, l, none⟩) r (cap - l)) ((F.drop l).take r).length (ivs ((F.drop l).take r)) := by
  have hd : ((F.drop l).take r).length = r := by rw [List.length_take, List.length_drop]; omega
  have := h.cut (s := 1) (by rw [ivs_length, Nat.mul_one]) l r (cap - l) (by omega) (by omega) (by omega)
  rw [ivs_cut] at this
  rw [hd]
  unfold Ytcgapfmdpchemaa.cut at this
  rw [Option.map_some, Addr.add_lit, Nat.zero_add, Nat.mul_one] at this
  exact this
/-- the disk behind a Do -/
theorem RIs.setES {ve' vi' : Value} {idx : List Nat} {ps' : List (EA × Value)} (h : RIs w B eb A m) (hes : REnts w ve' ps') (hix : TRd w 3 vi' idx.length (ivs idx)) (c p : Nat) :
    RIs ((w.setCell ⟨eb, 3, none⟩ ve').setCell ⟨eb, 4, none⟩ vi') B eb { A with es := eas ps', index := idx, change := c, place := p } m ∧ OnlyR B w ((w.setCell ⟨eb, 3, none⟩ ve').setCell ⟨eb, 4, none⟩ vi') := by
  obtain ⟨hs, ve, vi, vh, ps, h, hm⟩ := h
  have d1 := heap_setCell_same w eb 3 _ 115 ve' h.d
  have o1 := OnlyR.set (B := B) h.d (.inl rfl) h.lo 3 ve'
  have o2 := OnlyR.set (B := B) d1 (.inl rfl) h.lo 4 vi'
  have o := o1.trans o2
  refine ⟨⟨hs, ve', vi', vh, ps', ⟨?_, h.lo, hes.only o, rfl, hix.only o (by decide) (by decide), (h.hu.set h.d (by decide) 3 _).set d1 (by decide) 4 _, h.nd, h.eqh⟩, hm⟩, o⟩
  rw [heap_setCell_same _ eb 4 _ 115 _ d1]; rfl
end
/-- what holds of the work all along -/
theorem work_at {C : Cn} {A : AD} (hR : Rep C A) {l : List Pt} (hok : ∀ x ∈ l, x.ok) {k : Nat} {s : WA} (hp : WA.puts ⟨A.es, A.freeL, []⟩ (l.take k) = some s) :
    s.places ++ s.free = A.freeL ∧ Asc s.des ∧ s.es.length ≤ 24800 + l.length ∧ ∀ e ∈ s.des, e.fits := by
  have hW := hR.start.puts hp
  have hn : C.n = A.n := hR.n
  have h0 := start_ok hR.dir (by rw [hn]; exact hR.two)
  have hst0 : (⟨A.des, Ytcgapfmdpchemaa.freeL (usedB C.n A.index A.des), [], []⟩ : WS) = WA.toWS ⟨A.es, A.freeL, []⟩ [] := by rw [hn]; rfl
  rw [hst0] at h0
  have hps : WS.puts (WA.toWS ⟨A.es, A.freeL, []⟩ []) (l.take k) = some (s.toWS ([] ++ (l.take k).flatMap pgx)) := by rw [puts_sim, hp]; rfl
  have hS := h0.puts (by rw [hn]; exact hR.n5) (fun x hx => hok x (List.mem_of_mem_take hx)) hps
  refine ⟨hW.fl, hS.asc, ?_, hS.fit⟩
  have h1 := hS.many
  have h2 : (s.toWS ([] ++ (l.take k).flatMap pgx)).es.length = s.es.length := by simp [WA.toWS, WA.des]
  rw [h2, List.length_take] at h1
  omega
/-- es[:k] -/
theorem own_cut {w : World} {base n cap k : Nat} {a : Option Addr} {ps : List (EA × Value)} (h : w.ownsRow base 144 3 (.slice a n cap) n (ps.flatMap reCells)) (hk : k ≤ n) : w.ownsRow base 144 3 (.slice (cut a 0 cap 3) k cap) k ((ps.take k).flatMap reCells) := by
  rcases h.2 with ⟨h1, h0⟩ | ⟨g, cap', cur, h1, _⟩
  · cases h1
    have hk0 : k = 0 := by omega
    subst hk0
    have : cut none 0 0 3 = none := rfl
    rw [this, List.take_zero]
    exact World.ownsRow_nil _ _ _ _
  · cases h1
    have hc : cut (some ⟨g, 0, none⟩) 0 cap 3 = some ⟨g, 0, none⟩ := by
      unfold cut
      split
      · rfl
      · rw [Option.map_some, Addr.add_lit]
    rw [hc]
    exact own_front h hk
/-- es[l:] -/
theorem rents_cut {w : World} {n cap l r q : Nat} {a : Option Addr} {ps : List (EA × Value)} (h : Rd w (.slice a n cap) n (ps.flatMap reCells)) (hn : n = ps.length) (hl : n = l + r) (hc : cap = l + q) : Rd w (.slice (cut a l cap 3) r q) r ((ps.drop l).flatMap reCells) := by
  obtain ⟨a', c', he, hnc, _⟩ := id h
  cases he
  have := Rd_cut h (s := 3) (by rw [reCells_length, hn]) l r cap q (by omega) hc (by omega) (Nat.le_refl _)
  rwa [rflat_drop, List.take_of_length_le (by rw [reCells_length, List.length_drop]; omega)] at this
/-- the pages stay where a row of entries is appended to -/
theorem PgsAt.grown {w w' : World} {base n : Nat} {v : Value} {xs : List Value} {ps : List (EA × Value)} (h : PgsAt w ps) (ho : w.ownsRow base 144 3 v n xs) (hg : w.grownBy w' v.ownBlock) : PgsAt w' ps := fun p hp => by
  obtain ⟨a, c, hv, g1, g2, g3⟩ := h p hp
  refine ⟨a, c, hv, g1, g2, ?_⟩
  rcases g3 with g3 | ⟨b, off, cs, fr, ha, hb, hc⟩
  · exact .inl g3
  · refine .inr ⟨b, off, cs, fr, ha, (hg.block b (Array.getElem?_eq_some_iff.1 hb).1 ?_).trans hb, hc⟩
    rcases ho.2 with ⟨rfl, _⟩ | ⟨g, cap, cur, rfl, _, h3, _⟩
    · intro h; cases h
    · intro h
      simp only [Value.ownBlock, Option.some.injEq] at h
      subst h
      rw [hb] at h3
      simp at h3
/-- what a slice of a younger row reads as stays where an elder row is appended to -/
theorem own_stays {w w' : World} {base2 n2 N : Nat} {v v2 : Value} {xs2 : List Value} (h : w.ownsRow base2 144 3 v2 n2 xs2) (h2 : N ≤ base2) (hlt : ∀ g, v.ownBlock = some g → g < N) (hg : w.grownBy w' v.ownBlock) : w'.ownsRow base2 144 3 v2 n2 xs2 := by
  refine ⟨h.1, ?_⟩
  rcases h.2 with h3 | ⟨g, cap, cur, rfl, h4, h5, r⟩
  · exact .inl h3
  · refine .inr ⟨g, cap, cur, rfl, h4, (hg.block g (Array.getElem?_eq_some_iff.1 h5).1 (fun e => ?_)).trans h5, r⟩
    have := hlt g e.symm
    omega
/-- free[l:l+r], as a region that draws leaves it -/
theorem TRd.pages {w : World} {a : Option Addr} {cap : Nat} {F : List Nat} (h : TRd w 3 (.slice a F.length cap) F.length (ivs F)) (l r : Nat) (hl : l + r ≤ F.length) (hc : F.length ≤ cap) : TRd w 3 (.slice (if cap = l then a else Option.map (fun x => x.add l) a) r (cap - l)) ((F.drop l).take r).length (ivs ((F.drop l).take r)) := by
  have hd : ((F.drop l).take r).length = r := by rw [List.length_take, List.length_drop]; omega
  have := h.cut (s := 1) (by rw [ivs_length, Nat.mul_one]) l r (cap - l) (by omega) (by omega) (by omega)
  rw [ivs_cut] at this
  rw [hd]
  unfold Ytcgapfmdpchemaa.cut at this
  rw [Nat.mul_one] at this
  exact this
/-- free[l:l+r] -/
theorem TRd.sub {w : World} {a : Option Addr} {cap : Nat} {F : List Nat} (h : TRd w 3 (.slice a F.length cap) F.length (ivs F)) (l r q : Nat) (hl : l + r ≤ F.length) (hc : cap = l + q) (hrq : r ≤ q) : TRd w 3 (.slice (Ytcgapfmdpchemaa.cut a l cap 1) r q) ((F.drop l).take r).length (ivs ((F.drop l).take r)) := by
  have hd : ((F.drop l).take r).length = r := by rw [List.length_take, List.length_drop]; omega
  have := h.cut (s := 1) (by rw [ivs_length, Nat.mul_one]) l r q (by omega) hc hrq
  rw [ivs_cut] at this
  rw [hd]
  exact this
/-- the last part of a Do, in the reference's terms -/
theorem doS_wrR {A : AD} {s : WA} (hh : A.hurts (1 - A.place) = none) (hn : ¬ (s.free.length < parts (enc s.des).length ∨ 100 < parts (enc s.des).length)) :
    A.doS s = if (A.wrR (s.places ++ s.free.take (parts (enc s.des).length))).2 = true then (0, { (A.wrR (s.places ++ s.free.take (parts (enc s.des).length))).1 with es := s.es, index := s.free.take (parts (enc s.des).length), change := A.change + 1, place := 1 - A.place }) else (9, (A.wrR (s.places ++ s.free.take (parts (enc s.des).length))).1) := by
  unfold AD.doS
  rw [if_neg hn]
  generalize s.free.take (parts (enc s.des).length) = ix
  unfold AD.wrR
  obtain ⟨A1, b1, hR1⟩ : ∃ A1 b1, A.wrL (s.places ++ ix) = (A1, b1) := ⟨_, _, rfl⟩
  have hn1 := @wrL_none (s.places ++ ix) A _ hh
  rw [hR1] at hn1 ⊢
  dsimp only at hn1 ⊢
  cases b1 with
  | false => rfl
  | true =>
    dsimp only
    rw [wrH_eq hn1]
    rw [if_pos rfl]
    obtain ⟨A2, b2, hR2⟩ : ∃ A2 b2, A1.wrH = (A2, b2) := ⟨_, _, rfl⟩
    rw [hR2]
    cases b2 <;> rfl
theorem own_fit {w : World} {base n : Nat} {v : Value} {qs : List (EA × Value)} (h : w.ownsRow base 144 3 v n (qs.flatMap reCells)) : w.ownsRow base 144 3 v qs.length (qs.flatMap reCells) := by
  have hl := h.1
  rw [reCells_length] at hl
  rwa [show qs.length = n by omega]
theorem size144 : (Try.prog.info? 144).map (·.size) = some 3 := by kernel_rfl
theorem noneB_at {es : List DE} {l : List Pt} {k : Nat} (hk : k < l.length) (h : (l[k].drop && !(isB es l[k].name)) = true) : noneB es l = true :=
  List.any_eq_true.2 ⟨_, List.getElem_mem hk, h⟩
end Go.Proofs.Ytcgapfmdpchemaa
