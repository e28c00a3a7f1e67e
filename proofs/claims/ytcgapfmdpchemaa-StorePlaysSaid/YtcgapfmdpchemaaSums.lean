/- Damage as one operation of the abstract store, and StoreSums' plain law. -/
import Derived.Test.YtcgapfmdpchemaaVals
import Derived.Test.YtcgapfmdpchemaaLook
namespace Go.Proofs.Ytcgapfmdpchemaa
open Go.RowKit
/-- damage, whatever the arguments -/
def AD.damage (A : AD) (x y : Int) (f : UInt8) : Nat × AD :=
  if x < 2 ∨ (A.n : Int) ≤ x ∨ y < 0 ∨ 256 ≤ y ∨ f = 0 then (2, A)
  else match A.hurts x.toNat with
    | some (a, _) => if a = y.toNat then (0, A.hurt x.toNat y.toNat f) else (8, A)
    | none => (0, A.hurt x.toNat y.toNat f)
theorem s_damage {w : World} {bs bd bp bm : Nat} {A : AD} (h : Sess w bs bd bp bm A) (x y : Int) (f : UInt8) : Calls Try.prog 19 #[.pointer (some ⟨bd, 0, none⟩), .int .i64 x, .int .i64 y, bv f] w fun e w' => e = .returned (.int .i64 (A.damage x y f).1) ∧ Sess w' bs bd bp bm (A.damage x y f).2 ∧ Only3 bd bp bm w w' := by
  by_cases hb : x < 2 ∨ (A.n : Int) ≤ x ∨ y < 0 ∨ 256 ≤ y ∨ f = 0
  · have hdm : A.damage x y f = (2, A) := by unfold AD.damage; rw [if_pos hb]
    rw [hdm]
    obtain ⟨hs, C, hD, hR⟩ := id h
    refine (damage_bad w hD x y f (by unfold badB; rw [hR.n]; exact hb)).mono ?_
    rintro e w' ⟨rfl, rfl⟩
    exact ⟨rfl, h, Only3.refl _ _ _ _⟩
  · obtain ⟨q, rfl⟩ : ∃ q : Nat, x = q := ⟨x.toNat, by omega⟩
    obtain ⟨a, rfl⟩ : ∃ a : Nat, y = a := ⟨y.toNat, by omega⟩
    have hf : f ≠ 0 := fun h0 => hb (by simp [h0])
    refine (s_hurt h q a (by omega) (by omega) (by omega) f hf).mono ?_
    rintro e w' ⟨ho, ⟨a', f', h1, h2, rfl, hs⟩ | ⟨h1, rfl, hs⟩⟩
    · have hdm : A.damage q a f = (8, A) := by
        unfold AD.damage
        rw [if_neg hb, Int.toNat_natCast, Int.toNat_natCast, h1]
        dsimp only
        rw [if_neg h2]
      rw [hdm]
      exact ⟨rfl, hs, ho⟩
    · have hdm : A.damage q a f = (0, A.hurt q a f) := by
        unfold AD.damage
        rw [if_neg hb, Int.toNat_natCast, Int.toNat_natCast]
        cases hq : A.hurts q with
        | none => rfl
        | some z =>
          obtain ⟨a', f'⟩ := z
          dsimp only
          rw [if_pos (h1 a' f' hq)]
      rw [hdm]
      exact ⟨rfl, hs, ho⟩
theorem damage_keeps (A : AD) (x y : Int) (f : UInt8) : (A.damage x y f).2.n = A.n ∧ (A.damage x y f).2.es = A.es ∧ (A.damage x y f).2.down = A.down ∧ (A.damage x y f).2.fuse = A.fuse ∧ (A.damage x y f).2.change = A.change ∧ ((A.damage x y f).1 ≠ 0 → (A.damage x y f).2 = A) := by
  unfold AD.damage
  split
  · exact ⟨rfl, rfl, rfl, rfl, rfl, fun _ => rfl⟩
  · split
    · split
      · exact ⟨rfl, rfl, rfl, rfl, rfl, fun h => absurd rfl h⟩
      · exact ⟨rfl, rfl, rfl, rfl, rfl, fun _ => rfl⟩
    · exact ⟨rfl, rfl, rfl, rfl, rfl, fun h => absurd rfl h⟩
/-- what holds of the store all along: the values of the names from some place on are those that were put -/
structure Good (A : AD) (l : List Pt) (k : Nat) (many : Bool) (c : Nat) : Prop where
  down : A.down = false
  fuse : A.fuse < 0
  change : A.change ≤ c
  at_ : ∀ j, (h : j < l.length) → k ≤ j → ∃ e, lookA A.es l[j].name = some e ∧ e.value = l[j].value
  whole : many = false → Whole A
theorem good_first {n : Nat} {l : List Pt} {r : Nat} (hr : RefusedIs l r) (h0 : ((newA n).doA l r).1 = 0) (hd : ∀ x ∈ l, x.drop = false) : Good ((newA n).doA l r).2 l 0 false 2 ∧ (∀ x ∈ l, x.ok) ∧ Diff l := by
  have hx : r = 0 ∨ l = [] := by
    apply Classical.byContradiction
    intro hn
    rcases doA_cases (newA n) l r rfl hr with ⟨_, _, h⟩ | ⟨_, h, _⟩ | ⟨_, h, _⟩
    · exact hn (.inr (h h0))
    · exact hn (.inl h)
    · exact hn (.inl h)
  have hok : (∀ x ∈ l, x.ok) ∧ Diff l := by
    rcases hx with rfl | rfl
    · exact ⟨hr.ok.2, (refused_diff hr).1⟩
    · exact ⟨fun x h => (by cases h), List.Pairwise.nil⟩
  refine ⟨?_, hok⟩
  rcases doA_cases (newA n) l r rfl hr with ⟨h, _, hl⟩ | ⟨h9, _, _⟩ | ⟨_, hr0, s, hp, hD⟩
  · rw [h]
    have := hl h0
    subst this
    exact ⟨rfl, by show (-1 : Int) < 0; omega, by show 1 ≤ 2; omega, fun j hj => (by cases hj), fun _ _ => rfl⟩
  · omega
  · refine ⟨hD.down, hD.fuse (by show (-1 : Int) < 0; omega), by rw [hD.change]; show 1 + 1 ≤ 2; omega, fun j hj _ => ?_, fun _ q => hD.none_ q rfl⟩
    have := puts_look (s := ⟨(newA n).es, (newA n).freeL, []⟩) List.Pairwise.nil hp hok.2 l[j] (List.getElem_mem hj)
    rw [hd _ (List.getElem_mem hj)] at this
    obtain ⟨e, h1, h2, _⟩ := this
    exact ⟨e, by rw [hD.es]; exact h1, h2⟩
theorem good_hurt {A : AD} {l : List Pt} {many : Bool} {c : Nat} (h : Good A l 0 many c) (x y : Int) (f : UInt8) : ((A.damage x y f).1 = 0 → Good (A.damage x y f).2 l 0 true c) ∧ ((A.damage x y f).1 ≠ 0 → Good (A.damage x y f).2 l 0 many c) := by
  obtain ⟨_, h2, h3, h4, h5, h6⟩ := damage_keeps A x y f
  refine ⟨fun _ => ⟨h3.trans h.down, by rw [h4]; exact h.fuse, by rw [h5]; exact h.change, fun j hj hk => ?_, fun h => by cases h⟩, fun hn => ?_⟩
  · rw [h2]; exact h.at_ j hj hk
  · rw [h6 hn]; exact h
/-- what Get says of a name -/
theorem good_get {A : AD} {l : List Pt} {k : Nat} {many : Bool} {c : Nat} (h : Good A l k many c) (hok : ∀ x ∈ l, x.ok) (hk : k < l.length) : A.get l[k].name = (l[k].value, 0) ∨ ((A.get l[k].name).2 = 370 ∧ many = true) := by
  obtain ⟨e, he, hv⟩ := h.at_ k hk (Nat.le_refl _)
  have ha := argB_ok (hok _ (List.getElem_mem hk))
  have hm : ¬ Whole A → many = true := fun hn => by
    cases many with
    | false => exact absurd (h.whole rfl) hn
    | true => rfl
  rw [get_look, ha, he]
  by_cases hix : A.ok A.index = true
  · rw [state_ok h.down hix 0]
    by_cases hp : A.ok e.pages = true
    · left
      simp [hp, hv]
    · right
      refine ⟨by simp [hp], hm fun hw => hp (ok_whole fun q _ => hw q)⟩
  · right
    have hst : A.state 0 = 370 := by
      unfold AD.state
      rw [h.down]
      simp [hix]
    rw [hst]
    exact ⟨rfl, hm fun hw => hix (ok_whole fun q _ => hw q)⟩
/-- a value given anew -/
theorem good_do {A : AD} {l : List Pt} {k : Nat} {c r : Nat} (h : Good A l k true c) (hasc : Asc A.des) (hok : ∀ x ∈ l, x.ok) (hdf : Diff l) (hk : k < l.length) (v : ByteArray) (hv : v.size ≤ 60000) (hr : RefusedIs [⟨l[k].name, v, false⟩] r) :
    Good (A.doA [⟨l[k].name, v, false⟩] r).2 l (k + 1) true (c + 1) ∧ (((A.doA [⟨l[k].name, v, false⟩] r).1 = A.scrub.2 ∧ A.scrub.2 ≠ 0) ∨ (A.doA [⟨l[k].name, v, false⟩] r).1 = 5 ∨ ((A.doA [⟨l[k].name, v, false⟩] r).1 = 0 ∧ A.scrub.2 = 0 ∧ (A.doA [⟨l[k].name, v, false⟩] r).2.get l[k].name = (v, 0))) := by
  have hx := hok _ (List.getElem_mem hk)
  have hr0 : r = 0 := by
    rcases hr with ⟨_, h1 | h1⟩ | ⟨_, _, _, j, hj, hb⟩ | ⟨h0, _⟩
    · simp at h1
    · simp [Pt.long] at h1
      obtain ⟨_, h2, _⟩ := hx
      omega
    · obtain rfl : j = 0 := by simpa using hj
      obtain ⟨h2, _, _⟩ := hx
      simp [badAt, namesTo, seenB] at hb
      rw [hb] at h2
      simp at h2
    · exact h0
  subst hr0
  have hsc : A.scrub.2 = A.state 0 := by
    unfold AD.scrub
    split
    · rfl
    · rename_i h0
      show 0 = _
      omega
  have hgo : Good A l (k + 1) true (c + 1) := ⟨h.down, h.fuse, by have := h.change; omega, fun j hj hjk => h.at_ j hj (by omega), fun hf => by cases hf⟩
  by_cases hst : A.state 0 = 0
  · cases hp : WA.puts ⟨A.es, A.freeL, []⟩ [⟨l[k].name, v, false⟩] with
    | none =>
      have hun : A.doA [⟨l[k].name, v, false⟩] 0 = (5, A) := by
        unfold AD.doA
        rw [if_neg (by rw [hst]; simp), if_neg (by simp [noneB]), hp]
      rw [hun]
      exact ⟨hgo, .inr (.inl rfl)⟩
    | some s =>
      have hun : A.doA [⟨l[k].name, v, false⟩] 0 = A.doS s := by
        unfold AD.doA
        rw [if_neg (by rw [hst]; simp), if_neg (by simp [noneB]), hp]
      rw [hun]
      rcases doS_cases A s with h5 | ⟨_, hC⟩ | ⟨h0, hD⟩
      · rw [h5]
        exact ⟨hgo, .inr (.inl rfl)⟩
      · have h1 := hC.fuse
        have h2 := h.fuse
        omega
      · generalize A.doS s = R at *
        obtain ⟨e, B⟩ := R
        dsimp only at h0 hD ⊢
        refine ⟨⟨hD.down.trans h.down, hD.fuse h.fuse, by rw [hD.change]; have := h.change; omega, fun j hj hjk => ?_, fun hf => by cases hf⟩, .inr (.inr ⟨h0, hsc.trans hst, ?_⟩)⟩
        · obtain ⟨e', h1, h2⟩ := h.at_ j hj (by omega)
          refine ⟨e', ?_, h2⟩
          rw [hD.es, puts_other (s := ⟨A.es, A.freeL, []⟩) hasc hp ?_]
          · exact h1
          · intro x hx1
            rw [List.mem_singleton] at hx1
            subst hx1
            exact List.pairwise_iff_getElem.1 hdf k j hk hj (by omega)
        · have := get_done (A := A) (B := B) hasc hr hp hD.es (hD.down.trans h.down) hD.index hD.places ⟨l[k].name, v, false⟩ (List.mem_singleton.2 rfl)
          simpa using this
  · have hun : A.doA [⟨l[k].name, v, false⟩] 0 = (A.state 0, A) := by
      unfold AD.doA
      rw [if_pos (.inl hst)]
    rw [hun, hsc]
    exact ⟨hgo, .inl ⟨rfl, hst⟩⟩
theorem pick_int (b : Int) (hb : 0 < b) (hb2 : b < 100000) (x : Int) (w : World) : Calls Try.prog 20 #[.int .i64 x, .int .i64 b] w fun e w' => (∃ r : Nat, (r : Int) < b ∧ e = .returned (.int .i64 r)) ∧ w = w' := by
  obtain ⟨n, rfl⟩ : ∃ n : Nat, b = n := ⟨b.toNat, by omega⟩
  refine (pick_any n (by omega) (by omega) x w).mono ?_
  rintro e w' ⟨⟨r, hr, he⟩, hw⟩
  exact ⟨⟨r, by omega, he⟩, hw⟩
theorem s_damage_good {w : World} {bs bd bp bm : Nat} {A : AD} {l : List Pt} {many : Bool} {c : Nat} (h : Sess w bs bd bp bm A) (hg : Good A l 0 many c) (x y : Int) (f : UInt8) : Calls Try.prog 19 #[.pointer (some ⟨bd, 0, none⟩), .int .i64 x, .int .i64 y, .int .u8 f.toNat] w fun e w' => ∃ (d : Nat) (B : AD), e = .returned (.int .i64 d) ∧ Sess w' bs bd bp bm B ∧ Only3 bd bp bm w w' ∧ (d = 0 → Good B l 0 true c) ∧ (d ≠ 0 → Good B l 0 many c) :=
  (s_damage h x y f).mono fun _ _ ⟨he, hs, ho⟩ => ⟨_, _, he, hs, ho, (good_hurt hg x y f).1, (good_hurt hg x y f).2⟩
end Go.Proofs.Ytcgapfmdpchemaa
