/- Laws for the steps of regions that draw their order: cuts of slices, append. No function is walked here. -/
import Derived.Test.YtcgapfmdpchemaaCut
namespace Go.Proofs.Ytcgapfmdpchemaa
open Go.RowKit
theorem info94 : (Try.prog.info? 94).map (fun i => (i.zero, i.size, i.bytes)) = some (some (.agg #[.string ByteArray.empty, .int .i64 0, .slice none 0 0]), 3, 48) := by kernel_rfl
theorem el83 : El 83 94 (.agg #[.string ByteArray.empty, .int .i64 0, .slice none 0 0]) 3 48 := ⟨Try.underlying83, info94, rfl, by decide, by decide⟩
section
variable {o : Oper} {a : Act} {w : World} {Q : Exit → Act → World → Prop} {K : Act → World → Prop}
theorem op_sl_core {t e s : Nat} (hu : Try.prog.underlying t = some (.slice e)) (hsz : (Try.prog.info? e).map (·.size) = some s) (x : Operand) (lo hi mx : Option Operand) (ho : o.op = .slice t x lo hi mx)
    {A : Option Addr} {n c : Nat} (hx : a.eval x = .slice A n c) {l h m : Nat}
    (hb : (Instr.sliceBounds true n c (lo.map a.eval) (hi.map a.eval) (mx.map a.eval)).run Try.prog w = .ok (l, h, m) w)
    (hk : K (a.put o.dst (.slice (cut A l m s) (h - l) (m - l))) w) : o.wp Try.prog a w K Q := by
  unfold Oper.wp execOp
  simp only [ho, hx, Sem.run_bind, run_cut hu hsz w A n c _ _ _ l h m hb, Result.andThen_ok, Sem.run_pure]
  exact hk
/-- x[lo:hi] -/
theorem op_sl_lh {t e s : Nat} (hu : Try.prog.underlying t = some (.slice e)) (hsz : (Try.prog.info? e).map (·.size) = some s) (x lo hi : Operand) (ho : o.op = .slice t x (some lo) (some hi) none)
    {A : Option Addr} {n c : Nat} (hx : a.eval x = .slice A n c) (l r q : Nat) {kl kh : IntKind} {L H : Int} (hlo : a.eval lo = .int kl L) (hL : L = (l : Int)) (hhi : a.eval hi = .int kh H) (hH : H = ((l + r : Nat) : Int))
    (hq : c = l + q) (hrq : r ≤ q) (hk : K (a.put o.dst (.slice (cut A l c s) r q)) w) : o.wp Try.prog a w K Q := by
  subst hL hH
  refine op_sl_core hu hsz x _ _ _ ho hx (l := l) (h := l + r) (m := c) ?_ ?_
  · simp only [Option.map_some, Option.map_none, hlo, hhi, Instr.sliceBounds, Sem.run_bind, Sem.run_pure, Result.andThen_ok, bound_ok _ _ _ _ (show l + r ≤ c by omega), bound_ok _ _ _ _ (show l ≤ l + r by omega)]
  · rw [show l + r - l = r by omega, show c - l = q by omega]; exact hk
/-- append to an owned row of what a slice reads as -/
theorem op_app_rd {t e size bytes : Nat} {z : Value} (el : El t e z size bytes) (s x : Operand)
    (ho : o.op = .call { callee := .builtin .append, args := #[s, x], argTypes := #[t, t] })
    {base : Nat} {v : Value} {n : Nat} {xs : List Value} (hs : a.eval s = v) (hown : w.ownsRow base e size v n xs)
    {vx : Value} {m : Nat} {news : List Value} (hx : a.eval x = vx) (hrd : Rd w vx m news) (hl : news.length = m * size) (h0 : news ≠ []) (h1 : ∀ u ∈ news, u.oneCell' = true)
    (hn : n + m ≤ 1000000000) (hbase : base ≤ w.heap.size)
    (h : ∀ v' w', w'.ownsRow base e size v' (n + m) (xs ++ news) → w.grownBy w' v.ownBlock → Below base w w' → K (a.put o.dst v') w') : o.wp Try.prog a w K Q := by
  obtain ⟨i0, hi, hz0, hz1, hz2⟩ := info_parts el.info
  obtain ⟨ad, c, rfl, _, _, hc⟩ := hrd
  obtain ⟨b, off, rfl, _⟩ := hc 0 (List.length_pos_iff.2 h0)
  have hb : (n + m) * bytes ≤ 1000000000 * 1000 := Nat.mul_le_mul hn el.small
  refine wp_append_own w s x t ho base e i0 z size bytes el.under hi hz0 hz1 hz2 el.cells el.pos v n xs hs hown ⟨b, off, none⟩ m c news hx hl ?_ h1 (by unfold maxLen; omega) (by omega) hbase fun v' w' h2 h3 _ => h v' w' h2 h3 (below_of_grown hown h3 hbase)
  intro j u hu
  rw [List.getElem?_eq_some_iff] at hu
  obtain ⟨hj, rfl⟩ := hu
  obtain ⟨b2, o2, he, hcc⟩ := hc j hj
  cases he
  rw [Addr.add_lit]
  exact hcc
/-- append of one element that has just been laid -/
theorem op_app_new {t e size bytes : Nat} {z : Value} (el : El t e z size bytes) (s x : Operand)
    (ho : o.op = .call { callee := .builtin .append, args := #[s, x], argTypes := #[t, t] }) {us : List Value}
    {base : Nat} {v : Value} {n : Nat} {xs : List Value} (hs : a.eval s = v) (hown : w.ownsRow base e size v n xs) {g : Nat} (hgw : g = w.heap.size)
    (hx : a.eval x = .slice (some ⟨g, 0, none⟩) 1 1) (hus : us.length = size) (h1 : ∀ u ∈ us, u.oneCell' = true)
    (hn : n + 1 ≤ 1000000000) (hbase : base ≤ w.heap.size)
    (h : ∀ v' w', w'.ownsRow base e size v' (n + 1) (xs ++ us) → w.grownBy w' v.ownBlock → Below base w w' → K (a.put o.dst v') w') : o.wp Try.prog a (w.alloc (.cells us.toArray e)) K Q := by
  subst hgw
  have h0 : us ≠ [] := by rintro rfl; have := el.pos; simp at hus; omega
  refine op_app_rd el s x ho hs (hown.alloc _) hx (Rd_new w us e _ 1 rfl) (by rw [hus, Nat.one_mul]) h0 h1 hn (by simp; omega) fun v' w' h2 hg h3 => h v' w' h2 ?_ ((((Below.refl _ w).alloc hbase _)).trans h3)
  exact ⟨hg.os, hg.tape, hg.output, Nat.le_trans (by simp) hg.size, fun k hk hr => (hg.block k (by simp; omega) hr).trans (heap_alloc_old w _ hk)⟩
end
section
variable {ops : Array Oper} {rest : List Oper} {o : Oper} {a : Act} {w : World} {Q : Exit → Act → World → Prop}
/-- the same in a plain region -/
theorem app_new {t e size bytes : Nat} {z : Value} (el : El t e z size bytes) (hgd : o.guard = none) (s x : Operand)
    (ho : o.op = .call { callee := .builtin .append, args := #[s, x], argTypes := #[t, t] }) {us : List Value}
    {base : Nat} {v : Value} {n : Nat} {xs : List Value} (hs : a.eval s = v) (hown : w.ownsRow base e size v n xs) {g : Nat} (hgw : g = w.heap.size)
    (hx : a.eval x = .slice (some ⟨g, 0, none⟩) 1 1) (hus : us.length = size) (h1 : ∀ u ∈ us, u.oneCell' = true)
    (hn : n + 1 ≤ 1000000000) (hbase : base ≤ w.heap.size)
    (h : ∀ v' w', w'.ownsRow base e size v' (n + 1) (xs ++ us) → w.grownBy w' v.ownBlock → Below base w w' → wpList Try.prog ops Q rest (a.put o.dst v') w') : wpList Try.prog ops Q (o :: rest) a (w.alloc (.cells us.toArray e)) :=
  wpList_plain hgd fun _ hK => op_app_new el s x ho hs hown hgw hx hus h1 hn hbase fun v' w' h2 h3 h4 => hK _ _ (h v' w' h2 h3 h4)
end
end Go.Proofs.Ytcgapfmdpchemaa
