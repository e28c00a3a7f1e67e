/- What Do computes, in plain Lean, and what its steps keep. No function is walked here. -/
import Derived.Test.YtcgapfmdpchemaaCatch
import Derived.Lib.ConvBytes
namespace Go.Proofs.Ytcgapfmdpchemaa
open Go.RowKit
/-- which are free -/
def freeL (L : List Bool) : List Nat := (List.range L.length).filter fun i => !(L.getD i true)
theorem freeL_take (L : List Bool) (k : Nat) (hk : k < L.length) : freeL (L.take (k + 1)) = freeL (L.take k) ++ (if L[k] then [] else [k]) := by
  have h1 : (L.take (k + 1)).length = k + 1 := by rw [List.length_take]; omega
  have h2 : (L.take k).length = k := by rw [List.length_take]; omega
  unfold freeL
  rw [h1, h2, List.range_succ, List.filter_append]
  congr 1
  · apply List.filter_congr
    intro i hi
    rw [List.mem_range] at hi
    simp [List.getD, hi, show i < k + 1 by omega]
  · have e : (L.take (k + 1)).getD k true = L[k] := by simp [List.getD, hk]
    simp only [List.filter_cons, List.filter_nil, e]
    cases L[k] <;> rfl
theorem freeL_length (L : List Bool) : (freeL L).length ≤ L.length := by
  have := List.length_filter_le (fun i => !(L.getD i true)) (List.range L.length)
  rw [List.length_range] at this
  exact this
theorem freeL_lt (L : List Bool) : ∀ i ∈ freeL L, i < L.length := fun i hi => by
  have := (List.mem_filter.1 hi).1
  exact List.mem_range.1 this
/-- the work under way: the entries, the free pages, the pages to be written, and where to -/
structure WS where
  es : List DE
  free : List Nat
  pgs : List (List UInt8)
  places : List Nat
/-- the entries, the name's own struck -/
def dropB (es : List DE) (name : ByteArray) : List DE := if isB es name then es.take (atB es name) ++ es.drop (atB es name + 1) else es
/-- one change -/
def WS.put (s : WS) (x : Pt) : Option WS :=
  if x.drop then some { s with es := dropB s.es x.name }
  else if s.free.length < parts x.value.size then none
  else some ⟨(dropB s.es x.name).take (atB s.es x.name) ++ ⟨x.name, x.value.size, s.free.take (parts x.value.size)⟩ :: (dropB s.es x.name).drop (atB s.es x.name),
    s.free.drop (parts x.value.size), s.pgs ++ chunksB (nameBytes x.value), s.places ++ s.free.take (parts x.value.size)⟩
/-- some changes -/
def WS.puts (s : WS) : List Pt → Option WS
  | [] => some s
  | x :: l => match s.put x with
    | none => none
    | some s' => s'.puts l
theorem WS.puts_snoc (s : WS) (l : List Pt) (x : Pt) : s.puts (l ++ [x]) = (s.puts l).bind fun s' => s'.put x := by
  induction l generalizing s with
  | nil => simp only [List.nil_append, WS.puts, Option.bind_some]; cases s.put x <;> rfl
  | cons y l ih =>
    simp only [List.cons_append, WS.puts]
    cases s.put y with
    | none => rfl
    | some s' => exact ih s'
theorem WS.puts_append (s : WS) (l m : List Pt) : s.puts (l ++ m) = (s.puts l).bind fun s' => s'.puts m := by
  induction l generalizing s with
  | nil => rfl
  | cons y l ih =>
    simp only [List.cons_append, WS.puts]
    cases s.put y with
    | none => rfl
    | some s' => exact ih s'
/-- a change that is not refused -/
def Pt.ok (x : Pt) : Prop := 0 < x.name.size ∧ x.name.size ≤ 64 ∧ x.value.size ≤ 60000
theorem RefusedIs.ok {l : List Pt} (h : RefusedIs l 0) : l.length ≤ 100 ∧ ∀ x ∈ l, x.ok := by
  rcases h with ⟨h, _⟩ | ⟨h, _⟩ | ⟨_, h1, h2, h3⟩
  · cases h
  · cases h
  · refine ⟨h1, fun x hx => ?_⟩
    have hl : x.long = false := by
      have := List.any_eq_false.1 h2 x hx
      simpa using this
    simp only [Pt.long, Bool.or_eq_false_iff, decide_eq_false_iff_not] at hl
    refine ⟨?_, by omega, by omega⟩
    apply Nat.pos_of_ne_zero
    intro h0
    obtain ⟨k, hk, rfl⟩ := List.getElem_of_mem hx
    exact h3 ⟨k, hk, by simp [badAt, h0]⟩
/-- what holds of the work all along -/
structure WS.Ok (n F m : Nat) (s : WS) : Prop where
  asc : Asc s.es
  fit : ∀ e ∈ s.es, e.fits
  pg : ∀ e ∈ s.es, ∀ p ∈ e.pages, p < n
  room : ∀ e ∈ s.es, e.size ≤ 248 * e.pages.length
  many : s.es.length ≤ m
  len : s.pgs.length = s.places.length
  free_ : s.places.length + s.free.length = F
  low : ∀ p ∈ s.free, p < n
  plow : ∀ p ∈ s.places, p < n
  two : ∀ p ∈ s.free, 2 ≤ p
  ptwo : ∀ p ∈ s.places, 2 ≤ p
  long : ∀ p ∈ s.pgs, p.length = 256
theorem chunksB_length (L : List UInt8) : (chunksB L).length = parts L.length := by simp [chunksB]
theorem chunksB_long (L : List UInt8) : ∀ p ∈ chunksB L, p.length = 256 := fun p hp => by
  obtain ⟨k, _, rfl⟩ := List.mem_map.1 hp
  exact madeB_length _ (by simp; omega)
theorem dropB_mem {es : List DE} {name : ByteArray} {e : DE} (h : e ∈ dropB es name) : e ∈ es := by
  unfold dropB at h
  split at h
  · rcases List.mem_append.1 h with h | h
    · exact List.mem_of_mem_take h
    · exact List.mem_of_mem_drop h
  · exact h
theorem dropB_length (es : List DE) (name : ByteArray) : (dropB es name).length ≤ es.length := by
  unfold dropB
  split
  · simp; omega
  · exact Nat.le_refl _
theorem dropB_asc {es : List DE} (h : Asc es) (name : ByteArray) : Asc (dropB es name) := by
  unfold dropB
  split
  · refine List.Pairwise.sublist ?_ h
    conv => rhs; rw [← List.take_append_drop (atB es name) es]
    refine List.Sublist.append_left ?_ _
    exact List.drop_sublist_drop_left _ (Nat.le_succ _)
  · exact h
theorem atB_le (es : List DE) (name : ByteArray) : atB es name ≤ es.length := List.findIdx_le_length
theorem atB_before {es : List DE} {name : ByteArray} {j : Nat} (hj : j < es.length) (h : j < atB es name) : nlt es[j].name name := by
  have := List.not_of_lt_findIdx h
  simpa using this
theorem atB_here {es : List DE} {name : ByteArray} (h : atB es name < es.length) : ¬ nlt es[atB es name].name name := by
  unfold atB at h ⊢
  have := List.findIdx_getElem (xs := es) (p := fun e => decide (¬ nlt e.name name)) (w := h)
  simpa using this
theorem atB_after {es : List DE} (hs : Asc es) {name : ByteArray} {j : Nat} (hj : j < es.length) (h : atB es name ≤ j) : ¬ nlt es[j].name name := fun hlt => by
  have hi : atB es name < es.length := by omega
  exact atB_here hi (nlt_of_le hs hi hj h hlt)
theorem nlt_total {a b : ByteArray} (h : ¬ nlt a b) (hne : a ≠ b) : nlt b a := by
  unfold nlt at *
  apply Classical.byContradiction
  intro h2
  exact hne (ba_ext (List.le_antisymm (List.not_lt.1 h2) (List.not_lt.1 h)))
/-- where a name is it stands at its place -/
theorem isB_at {es : List DE} (hs : Asc es) {name : ByteArray} : isB es name = true ↔ ∃ h : atB es name < es.length, es[atB es name].name = name :=
  (find_spec hs (atB_le es name) (fun _ hj h => atB_before hj h) (fun _ hj h => atB_after hs hj h)).2
theorem take_dropB (es : List DE) (name : ByteArray) : (dropB es name).take (atB es name) = es.take (atB es name) := by
  unfold dropB
  split
  · rw [List.take_append_of_le_length (by rw [List.length_take]; have := atB_le es name; omega), List.take_take, Nat.min_self]
  · rfl
theorem drop_dropB (es : List DE) (name : ByteArray) : (dropB es name).drop (atB es name) = if isB es name then es.drop (atB es name + 1) else es.drop (atB es name) := by
  unfold dropB
  split
  · have h1 : (es.take (atB es name)).length = atB es name := by rw [List.length_take]; have := atB_le es name; omega
    rw [List.drop_append, h1, Nat.sub_self, List.drop_zero, List.drop_of_length_le (by omega), List.nil_append]
  · rfl
theorem isB_name {es : List DE} {name : ByteArray} (h : isB es name = false) : ∀ e ∈ es, e.name ≠ name := fun e he hn => by
  have := List.any_eq_false.1 h e he
  simp [hn] at this
theorem take_before {es : List DE} {name : ByteArray} : ∀ e ∈ es.take (atB es name), nlt e.name name := fun e he => by
  obtain ⟨j, hj, rfl⟩ := List.getElem_of_mem he
  rw [List.length_take] at hj
  rw [List.getElem_take]
  exact atB_before (by omega) (by omega)
theorem drop_after {es : List DE} (hs : Asc es) {name : ByteArray} : ∀ e ∈ (dropB es name).drop (atB es name), nlt name e.name := fun e he => by
  rw [drop_dropB] at he
  split at he
  · rename_i hi
    obtain ⟨h1, h2⟩ := (isB_at hs).1 hi
    obtain ⟨j, hj, rfl⟩ := List.getElem_of_mem he
    rw [List.length_drop] at hj
    rw [List.getElem_drop]
    have := List.pairwise_iff_getElem.1 hs (atB es name) (atB es name + 1 + j) h1 (by omega) (by omega)
    rwa [h2] at this
  · rename_i hi
    have hi' : isB es name = false := by simpa using hi
    obtain ⟨j, hj, rfl⟩ := List.getElem_of_mem he
    rw [List.length_drop] at hj
    rw [List.getElem_drop]
    exact nlt_total (atB_after hs (by omega) (Nat.le_add_right _ _)) (isB_name hi' _ (List.getElem_mem _))
theorem insert_asc {es : List DE} (hs : Asc es) (e : DE) : Asc ((dropB es e.name).take (atB es e.name) ++ e :: (dropB es e.name).drop (atB es e.name)) := by
  have h1 := dropB_asc hs e.name
  have h2 : Asc ((dropB es e.name).take (atB es e.name) ++ (dropB es e.name).drop (atB es e.name)) := by rw [List.take_append_drop]; exact h1
  have h3 := List.pairwise_append.1 h2
  refine List.pairwise_append.2 ⟨h3.1, List.pairwise_cons.2 ⟨fun x hx => drop_after hs x hx, h3.2.1⟩, fun a ha b hb => ?_⟩
  rw [take_dropB] at ha
  have ha' := take_before a ha
  rcases List.mem_cons.1 hb with rfl | hb
  · exact ha'
  · exact nlt_trans ha' (drop_after hs b hb)
theorem WS.Ok.put {n F m : Nat} {s s' : WS} {x : Pt} (h : s.Ok n F m) (hn : n ≤ 4096) (hx : x.ok) (hp : s.put x = some s') : s'.Ok n F (m + 1) := by
  obtain ⟨hx0, hx64, hx6⟩ := hx
  have hlen : parts x.value.size ≤ 1000 := by unfold parts; omega
  have hmem : ∀ e ∈ dropB s.es x.name, e ∈ s.es := fun e he => dropB_mem he
  unfold WS.put at hp
  split at hp
  · cases hp
    exact ⟨dropB_asc h.asc _, fun e he => h.fit e (hmem e he), fun e he => h.pg e (hmem e he), fun e he => h.room e (hmem e he), by have := dropB_length s.es x.name; have := h.many; show (dropB s.es x.name).length ≤ m + 1; omega, h.len, h.free_, h.low, h.plow, h.two, h.ptwo, h.long⟩
  · split at hp
    · cases hp
    · rename_i hf
      cases hp
      have hf' : parts x.value.size ≤ s.free.length := by omega
      have htl : (s.free.take (parts x.value.size)).length = parts x.value.size := by rw [List.length_take]; omega
      have hall : ∀ {P : DE → Prop}, (∀ e ∈ s.es, P e) → P ⟨x.name, x.value.size, s.free.take (parts x.value.size)⟩ → ∀ e ∈ (dropB s.es x.name).take (atB s.es x.name) ++ ⟨x.name, x.value.size, s.free.take (parts x.value.size)⟩ :: (dropB s.es x.name).drop (atB s.es x.name), P e := fun {P} h1 h2 e he => by
        rcases List.mem_append.1 he with he | he
        · exact h1 e (hmem e (List.mem_of_mem_take he))
        · rcases List.mem_cons.1 he with rfl | he
          · exact h2
          · exact h1 e (hmem e (List.mem_of_mem_drop he))
      have hnb : (nameBytes x.value).length = x.value.size := nameBytes_length _
      refine ⟨insert_asc h.asc ⟨x.name, x.value.size, s.free.take (parts x.value.size)⟩, hall h.fit ?_, hall h.pg ?_, hall h.room ?_, ?_, ?_, ?_, ?_, ?_, ?_, ?_, ?_⟩
      · refine ⟨hx0, hx64, by show x.value.size < _; omega, by show (s.free.take _).length ≤ _; omega, fun p hp => ?_⟩
        have := h.low p (List.mem_of_mem_take hp)
        omega
      · exact fun p hp => h.low p (List.mem_of_mem_take hp)
      · show x.value.size ≤ 248 * (s.free.take _).length
        rw [htl]; unfold parts; omega
      · have h1 := dropB_length s.es x.name
        have h2 := h.many
        rw [List.length_append, List.length_cons, List.length_take, List.length_drop]
        omega
      · simp only [List.length_append, chunksB_length, hnb, htl, h.len]
      · have := h.free_
        simp only [List.length_append, List.length_drop, htl]
        omega
      · exact fun p hp => h.low p (List.mem_of_mem_drop hp)
      · intro p hp
        rcases List.mem_append.1 hp with hp | hp
        · exact h.plow p hp
        · exact h.low p (List.mem_of_mem_take hp)
      · exact fun p hp => h.two p (List.mem_of_mem_drop hp)
      · intro p hp
        rcases List.mem_append.1 hp with hp | hp
        · exact h.ptwo p hp
        · exact h.two p (List.mem_of_mem_take hp)
      · intro p hp
        rcases List.mem_append.1 hp with hp | hp
        · exact h.long p hp
        · exact chunksB_long _ p hp
theorem WS.Ok.puts {n F m : Nat} {s s' : WS} {l : List Pt} (h : s.Ok n F m) (hn : n ≤ 4096) (hl : ∀ x ∈ l, x.ok) (hp : s.puts l = some s') : s'.Ok n F (m + l.length) := by
  induction l generalizing s m with
  | nil => simp only [WS.puts, Option.some.injEq] at hp; subst hp; exact h
  | cons x l ih =>
    simp only [WS.puts] at hp
    cases hx : s.put x with
    | none => rw [hx] at hp; cases hp
    | some t =>
      rw [hx] at hp
      have := ih (h.put hn (hl x (by simp)) hx) (fun y hy => hl y (by simp [hy])) hp
      rw [List.length_cons, show m + (l.length + 1) = m + 1 + l.length by omega]
      exact this
theorem WS.Ok.mono {n F m m' : Nat} {s : WS} (h : s.Ok n F m) (hm : m ≤ m') : s.Ok n F m' := ⟨h.asc, h.fit, h.pg, h.room, Nat.le_trans h.many hm, h.len, h.free_, h.low, h.plow, h.two, h.ptwo, h.long⟩
theorem enc_le (es : List DE) (h : ∀ e ∈ es, e.fits) : (enc es).length ≤ 2071 * es.length := by
  induction es with
  | nil => simp [enc]
  | cons e es ih =>
    have h1 := ih fun x hx => h x (by simp [hx])
    obtain ⟨_, h2, _, h3, _⟩ := h e (by simp)
    rw [enc_cons, List.length_append, encE_length, List.length_cons]
    omega
/-! ### What is kept -/
theorem IntsLow.keeps {B : Nat} {w w' : World} {sl : Value} {ns : List Nat} (h : IntsLow B w sl ns) (hk : Keeps 94 w w') : IntsLow B w' sl ns :=
  h.kept fun b cs fr _ hb => (hk.row hb (by decide)).trans hb.symm
theorem IntsLow.below {B B' : Nat} {w w' : World} {sl : Value} {ns : List Nat} (h : IntsLow B w sl ns) (hb : Below B' w w') (hB : w.heap.size ≤ B') : IntsLow B w' sl ns :=
  h.kept fun b _cs _fr _ hr => hb.block b (Nat.lt_of_lt_of_le (Array.getElem?_eq_some_iff.1 hr).1 hB)
theorem WorkAt.keeps {w w' : World} {base bw : Nat} {vf : Value} {free : List Nat} {pgs : List (List UInt8)} {places : List Nat} (h : WorkAt w base bw vf free pgs places) (hk : Keeps 94 w w') : WorkAt w' base bw vf free pgs places := by
  obtain ⟨vp, vl, h1, h2, h3⟩ := h.rows
  exact ⟨h.low, Nat.le_trans h.size hk.size, h.free_.keeps hk, ⟨vp, vl, hk.row h1 (by decide), own_kept h2 fun b cs fr _ hb => (hk.row hb (by decide)).trans hb.symm, own_kept h3 fun b cs fr _ hb => (hk.row hb (by decide)).trans hb.symm⟩, h.long⟩
theorem WorkAt.below {w w' : World} {base bw B : Nat} {vf : Value} {free : List Nat} {pgs : List (List UInt8)} {places : List Nat} (h : WorkAt w base bw vf free pgs places) (hb : Below B w w') (hB : w.heap.size ≤ B) : WorkAt w' base bw vf free pgs places := by
  obtain ⟨vp, vl, h1, h2, h3⟩ := h.rows
  exact ⟨h.low, Nat.le_trans h.size hb.size, h.free_.below hb hB, ⟨vp, vl, (hb.block _ (Nat.lt_of_lt_of_le (Array.getElem?_eq_some_iff.1 h1).1 hB)).trans h1, own_below h2 hb hB, own_below h3 hb hB⟩, h.long⟩
theorem TK.below {base bw n0 : Nat} {w w' : World} (h : TK base bw w w') (h1 : n0 ≤ bw) (h2 : n0 ≤ base) (h3 : n0 ≤ w.heap.size) : Below n0 w w' :=
  ⟨h.os, h.tape, h.output, h.size, fun k hk => by
    obtain ⟨o, ho⟩ : ∃ o, w.heap[k]? = some o := ⟨_, Array.getElem?_eq_getElem (by omega)⟩
    rw [ho]; exact h.block k o ho (by omega) (.inl (by omega))⟩
theorem TK.of_set {base : Nat} (w : World) (bw j : Nat) (v : Value) : TK base bw w (w.setCell ⟨bw, j, none⟩ v) := TK.of_only ⟨rfl, rfl, rfl, by simp [World.setCell], fun k hk => heap_setCell_other w ⟨bw, j, none⟩ k v hk⟩
/-- a row of entries whose numbers lie below base stays behind take -/
theorem EntRow.tk {base bw n0 : Nat} {w w' : World} {v : Value} {ps : List (DE × Value)} (h : EntRow w n0 v ps) (hlow : ∀ p ∈ ps, IntsLow base w p.2 p.1.pages) (hk : TK base bw w w') {cs : Array Value} {fr : Nat × Nat} (hb : w.heap[bw]? = some (.cells cs 87 fr)) : EntRow w' n0 v ps :=
  ⟨own_kept h.own fun b cs' fr' _ hr => (hk.row hr (by rintro rfl; rw [hb] at hr; simp at hr) (by decide) (by decide)).trans hr.symm, fun p hp => (hk.ints (hlow p hp) hb).at_⟩
/-- the bytes of a string -/
theorem bytes_at (w : World) (s : ByteArray) (h : s.size ≤ 1000000) : BytesAt (Lib.bytesWorld w 5 s) (.slice (some ⟨w.heap.size, 0, none⟩) s.size (grownCap w s.size 0 5)) (nameBytes s) ∧ Below w.heap.size w (Lib.bytesWorld w 5 s) := by
  refine ⟨⟨_, _, by rw [nameBytes_length], by rw [nameBytes_length]; exact grownCap_ge w _ _ _, grownCap_le_maxLen w _ _ _ (by unfold maxLen; omega), .inr ⟨_, _, _, _, rfl, Lib.bytesWorld_at_new w 5 s, fun j hj => ?_⟩⟩, ⟨rfl, rfl, rfl, by rw [Lib.bytesWorld_size]; omega, fun k hk => Lib.bytesWorld_at_old w 5 s k hk⟩⟩
  rw [nameBytes_length] at hj
  have hj' : j < s.data.size := hj
  simp only [Nat.zero_add, Lib.bytesCells]
  rw [Array.getElem?_append_left (by simpa using hj')]
  simp [nameBytes, bv]
  exact ⟨_, Array.getElem?_eq_getElem hj', rfl⟩
end Go.Proofs.Ytcgapfmdpchemaa
