/- Laws for the walk on cuts of slices, and on strings made of bytes. No function is walked here. -/
import Derived.Test.YtcgapfmdpchemaaDisk
namespace Go.Proofs.Ytcgapfmdpchemaa
open Go.RowKit
/-- where a cut of a slice begins -/
def cut (A : Option Addr) (l m s : Nat) : Option Addr := if m = l then A else A.map (·.add (l * s))
theorem Rd_cut {w : World} {A : Option Addr} {n c s : Nat} {xs : List Value} (h : Rd w (.slice A n c) n xs) (hx : xs.length = n * s) (l r m q : Nat) (hr : l + r ≤ n) (hm : m = l + q) (hrq : r ≤ q) (hmc : m ≤ c) :
    Rd w (.slice (cut A l m s) r q) r ((xs.drop (l * s)).take (r * s)) := by
  obtain ⟨A', c', he, hnc, hcm, hc⟩ := h
  cases he
  refine ⟨_, _, rfl, hrq, by omega, fun j hj => ?_⟩
  simp only [List.length_take, List.length_drop] at hj
  have hr0 : 0 < r := by
    rcases Nat.eq_zero_or_pos r with h | h
    · subst h; simp at hj
    · exact h
  obtain ⟨b, off, rfl, hcell⟩ := hc (l * s + j) (by omega)
  refine ⟨b, off + l * s, ?_, ?_⟩
  · simp only [cut, if_neg (show ¬ m = l by omega), Option.map_some, Addr.add_lit]
  · rw [Nat.add_assoc, hcell]
    simp
theorem run_cut {t e s : Nat} (hu : Try.prog.underlying t = some (.slice e)) (hsz : (Try.prog.info? e).map (·.size) = some s) (w : World) (A : Option Addr) (n c : Nat) (lo hi mx : Option Value) (l h m : Nat)
    (hb : (Instr.sliceBounds true n c lo hi mx).run Try.prog w = .ok (l, h, m) w) : (Instr.sliceAt t (.slice A n c) lo hi mx).run Try.prog w = .ok (.slice (cut A l m s) (h - l) (m - l)) w := by
  simp only [Instr.sliceAt, Sem.run_bind, run_underlying hu, Result.andThen_ok, Instr.slice, hb, run_size hsz, Sem.run_pure, cut]
section
variable {ops : Array Oper} {rest : List Oper} {o : Oper} {a : Act} {w : World} {Q : Exit → Act → World → Prop}
theorem sl_core {t e s : Nat} (hu : Try.prog.underlying t = some (.slice e)) (hsz : (Try.prog.info? e).map (·.size) = some s) (hgd : o.guard = none) (x : Operand) (lo hi mx : Option Operand) (ho : o.op = .slice t x lo hi mx)
    {A : Option Addr} {n c : Nat} (hx : a.eval x = .slice A n c) {l h m : Nat}
    (hb : (Instr.sliceBounds true n c (lo.map a.eval) (hi.map a.eval) (mx.map a.eval)).run Try.prog w = .ok (l, h, m) w)
    (hk : wpList Try.prog ops Q rest (a.put o.dst (.slice (cut A l m s) (h - l) (m - l))) w) : wpList Try.prog ops Q (o :: rest) a w :=
  wpList_plain hgd fun K hK => by
    unfold Oper.wp execOp
    simp only [ho, hx, Sem.run_bind, run_cut hu hsz w A n c _ _ _ l h m hb, Result.andThen_ok, Sem.run_pure]
    exact hK _ _ hk
/-- p[lo:hi] of a page -/
theorem sla_lh (hgd : o.guard = none) (x lo hi : Operand) (ho : o.op = .slice 81 x (some lo) (some hi) none) {g : Nat} (hx : a.eval x = .pointer (some ⟨g, 0, none⟩))
    (l r q : Nat) {kl kh : IntKind} {L H : Int} (hlo : a.eval lo = .int kl L) (hL : L = (l : Int)) (hhi : a.eval hi = .int kh H) (hH : H = ((l + r : Nat) : Int)) (hq : 256 = l + q) (hrq : r ≤ q) (hq0 : 0 < q)
    (hk : wpList Try.prog ops Q rest (a.put o.dst (.slice (some ⟨g, l, none⟩) r q)) w) : wpList Try.prog ops Q (o :: rest) a w :=
  wpList_plain hgd fun K hK => by
    subst hL hH
    have b1 : (Instr.sliceBound (.int kh ((l + r : Nat) : Int)) 256 .sliceAlen).run Try.prog w = .ok (l + r) w := by
      rw [run_sliceBound (P := Try.prog) w kh ((l + r : Nat) : Int) 256 .sliceAlen (by omega) (by omega), Int.toNat_natCast]
    have b2 : (Instr.sliceBound (.int kl (l : Int)) (l + r) .sliceB).run Try.prog w = .ok l w := by
      rw [run_sliceBound (P := Try.prog) w kl (l : Int) (l + r) .sliceB (by omega) (by omega)]; simp
    unfold Oper.wp execOp
    simp only [ho, hx, Option.map_some, Option.map_none, hlo, hhi, Instr.sliceAt, Sem.run_bind, run_underlying Try.underlying81, Result.andThen_ok, Instr.sureAddr, Sem.run_pure, Instr.sliceBounds, Bool.false_eq_true, if_false, b1, b2, Option.isSome_none]
    have hz : (sizeOf 5).run Try.prog w = .ok 1 w := run_size (by kernel_rfl) w
    simp only [hz, Result.andThen_ok, if_neg (show ¬ 256 = l by omega), Addr.add_lit, show l + r - l = r by omega, show 256 - l = q by omega, Nat.zero_add, Nat.mul_one]
    exact hK _ _ hk
theorem bound_ok (k : IntKind) (l y : Nat) (code : BoundsCode) (h : l ≤ y) (w : World) : (Instr.sliceBound (.int k (l : Int)) y code).run Try.prog w = .ok l w := by
  rw [run_sliceBound (P := Try.prog) w k (l : Int) y code (by omega) (by omega)]
  simp
/-- x[lo:hi] -/
theorem sl_lh {t e s : Nat} (hu : Try.prog.underlying t = some (.slice e)) (hsz : (Try.prog.info? e).map (·.size) = some s) (hgd : o.guard = none) (x lo hi : Operand) (ho : o.op = .slice t x (some lo) (some hi) none)
    {A : Option Addr} {n c : Nat} (hx : a.eval x = .slice A n c) (l r q : Nat) {kl kh : IntKind} {L H : Int} (hlo : a.eval lo = .int kl L) (hL : L = (l : Int)) (hhi : a.eval hi = .int kh H) (hH : H = ((l + r : Nat) : Int))
    (hq : c = l + q) (hrq : r ≤ q) (hk : wpList Try.prog ops Q rest (a.put o.dst (.slice (cut A l c s) r q)) w) : wpList Try.prog ops Q (o :: rest) a w := by
  subst hL hH
  refine sl_core hu hsz hgd x _ _ _ ho hx (l := l) (h := l + r) (m := c) ?_ ?_
  · simp only [Option.map_some, Option.map_none, hlo, hhi, Instr.sliceBounds, Sem.run_bind, Sem.run_pure, Result.andThen_ok, bound_ok _ _ _ _ (show l + r ≤ c by omega), bound_ok _ _ _ _ (show l ≤ l + r by omega)]
  · rw [show l + r - l = r by omega, show c - l = q by omega]; exact hk
/-- x[lo:] -/
theorem sl_l {t e s : Nat} (hu : Try.prog.underlying t = some (.slice e)) (hsz : (Try.prog.info? e).map (·.size) = some s) (hgd : o.guard = none) (x lo : Operand) (ho : o.op = .slice t x (some lo) none none)
    {A : Option Addr} {n c : Nat} (hx : a.eval x = .slice A n c) (l r q : Nat) {kl : IntKind} {L : Int} (hlo : a.eval lo = .int kl L) (hL : L = (l : Int)) (hn : n = l + r)
    (hq : c = l + q) (hk : wpList Try.prog ops Q rest (a.put o.dst (.slice (cut A l c s) r q)) w) : wpList Try.prog ops Q (o :: rest) a w := by
  subst hL
  refine sl_core hu hsz hgd x _ _ _ ho hx (l := l) (h := n) (m := c) ?_ ?_
  · simp only [Option.map_some, Option.map_none, hlo, Instr.sliceBounds, Sem.run_bind, Sem.run_pure, Result.andThen_ok, bound_ok _ _ _ _ (show l ≤ n by omega)]
  · rw [show n - l = r by omega, show c - l = q by omega]; exact hk
/-- x[:hi] -/
theorem sl_h {t e s : Nat} (hu : Try.prog.underlying t = some (.slice e)) (hsz : (Try.prog.info? e).map (·.size) = some s) (hgd : o.guard = none) (x hi : Operand) (ho : o.op = .slice t x none (some hi) none)
    {A : Option Addr} {n c : Nat} (hx : a.eval x = .slice A n c) (r : Nat) {kh : IntKind} {H : Int} (hhi : a.eval hi = .int kh H) (hH : H = (r : Int))
    (hrq : r ≤ c) (hk : wpList Try.prog ops Q rest (a.put o.dst (.slice (cut A 0 c s) r c)) w) : wpList Try.prog ops Q (o :: rest) a w := by
  subst hH
  refine sl_core hu hsz hgd x _ _ _ ho hx (l := 0) (h := r) (m := c) ?_ ?_
  · simp only [Option.map_some, Option.map_none, hhi, Instr.sliceBounds, Sem.run_bind, Sem.run_pure, Result.andThen_ok, bound_ok _ _ _ _ hrq]
  · exact hk
/-- x[:hi:mx] -/
theorem sl_hm {t e s : Nat} (hu : Try.prog.underlying t = some (.slice e)) (hsz : (Try.prog.info? e).map (·.size) = some s) (hgd : o.guard = none) (x hi mx : Operand) (ho : o.op = .slice t x none (some hi) (some mx))
    {A : Option Addr} {n c : Nat} (hx : a.eval x = .slice A n c) (r m : Nat) {kh km : IntKind} {H M : Int} (hhi : a.eval hi = .int kh H) (hH : H = (r : Int)) (hmx : a.eval mx = .int km M) (hM : M = (m : Int))
    (hrm : r ≤ m) (hmc : m ≤ c) (hk : wpList Try.prog ops Q rest (a.put o.dst (.slice (cut A 0 m s) r m)) w) : wpList Try.prog ops Q (o :: rest) a w := by
  subst hH hM
  refine sl_core hu hsz hgd x _ _ _ ho hx (l := 0) (h := r) (m := m) ?_ ?_
  · simp only [Option.map_some, Option.map_none, hhi, hmx, Instr.sliceBounds, Sem.run_bind, Sem.run_pure, Result.andThen_ok, bound_ok _ _ _ _ hmc, bound_ok _ _ _ _ hrm]
  · exact hk
/-- x[lo:hi:mx] -/
theorem sl_lhm {t e s : Nat} (hu : Try.prog.underlying t = some (.slice e)) (hsz : (Try.prog.info? e).map (·.size) = some s) (hgd : o.guard = none) (x lo hi mx : Operand) (ho : o.op = .slice t x (some lo) (some hi) (some mx))
    {A : Option Addr} {n c : Nat} (hx : a.eval x = .slice A n c) (l r q : Nat) {kl kh km : IntKind} {L H M : Int} (hlo : a.eval lo = .int kl L) (hL : L = (l : Int)) (hhi : a.eval hi = .int kh H) (hH : H = ((l + r : Nat) : Int)) (hmx : a.eval mx = .int km M) (hM : M = ((l + q : Nat) : Int))
    (hrq : r ≤ q) (hmc : l + q ≤ c) (hk : wpList Try.prog ops Q rest (a.put o.dst (.slice (cut A l (l + q) s) r q)) w) : wpList Try.prog ops Q (o :: rest) a w := by
  subst hL hH hM
  refine sl_core hu hsz hgd x _ _ _ ho hx (l := l) (h := l + r) (m := l + q) ?_ ?_
  · simp only [Option.map_some, hlo, hhi, hmx, Instr.sliceBounds, Sem.run_bind, Sem.run_pure, Result.andThen_ok, bound_ok _ _ _ _ hmc, bound_ok _ _ _ _ (show l + r ≤ l + q by omega), bound_ok _ _ _ _ (show l ≤ l + r by omega)]
  · rw [show l + r - l = r by omega, show l + q - l = q by omega]; exact hk
end
theorem run_str {w : World} {v : Value} {n : Nat} {l : List UInt8} (hrd : Rd w v n (bvs l)) (hn : l.length = n) : (convert 97 9 v).run Try.prog w = .ok (.string ⟨l.toArray⟩) w := by
  subst hn
  obtain ⟨A, c, rfl, _, _, hc⟩ := hrd
  by_cases h0 : l = []
  · subst h0
    cases A with
    | none => exact run_convert_bytes_nil (P := Try.prog) w 97 5 Try.underlying97 Try.underlying5 _ _ 9 Try.underlying9
    | some ad =>
      obtain ⟨b, off, sp⟩ := ad
      have hl : (loadCells ⟨b, off, sp⟩ 0).run Try.prog w = .ok #[] w := rfl
      simp only [List.length_nil]
      rw [run_convert_bytes_string w 97 9 5 _ 0 c Try.underlying97 Try.underlying5 Try.underlying9, run_bytesToString w _ 0 c [] (by simpa using hl)]
      rfl
  · obtain ⟨b, off, rfl, _⟩ := hc 0 (by rw [bvs_length]; exact List.length_pos_iff.2 h0)
    rw [run_convert_bytes_arg (P := Try.prog) w 97 5 Try.underlying97 Try.underlying5 b off l.length c (l.map fun b => (b.toNat : Int)) (by simp) (fun i hi => ?_) 9 Try.underlying9]
    · have e1 : strOfNums (l.map fun b => (b.toNat : Int)) = ⟨l.toArray⟩ := by
        have : (l.map fun b => (b.toNat : Int)).map (fun n => UInt8.ofNat n.toNat) = l := by simp [List.map_map, Function.comp_def]
        unfold strOfNums
        rw [this]
      rw [e1]
    · obtain ⟨b2, o2, he, hcell⟩ := hc i (by rw [bvs_length]; exact hi)
      cases he
      rw [hcell]
      simp [bvs, bv, List.getD, hi]
section
variable {ops : Array Oper} {rest : List Oper} {o : Oper} {a : Act} {w : World} {Q : Exit → Act → World → Prop}
/-- string(b) -/
theorem cv_str (hgd : o.guard = none) (x : Operand) (ho : o.op = .convert 97 9 x) {v : Value} (hx : a.eval x = v) {n : Nat} {l : List UInt8} (hrd : Rd w v n (bvs l)) (hn : l.length = n)
    (hk : wpList Try.prog ops Q rest (a.put o.dst (.string ⟨l.toArray⟩)) w) : wpList Try.prog ops Q (o :: rest) a w :=
  wpList_plain hgd fun K hK => by
    unfold Oper.wp execOp
    simp only [ho, hx, Sem.run_bind, run_str hrd hn, Result.andThen_ok, Sem.run_pure]
    exact hK _ _ hk
end
theorem size5 : (Try.prog.info? 5).map (·.size) = some 1 := by kernel_rfl
theorem size3 : (Try.prog.info? 3).map (·.size) = some 1 := by kernel_rfl
theorem size94 : (Try.prog.info? 94).map (·.size) = some 3 := by kernel_rfl
end Go.Proofs.Ytcgapfmdpchemaa
/- Laws for the steps of regions that draw their order: cuts of slices, append. No function is walked here. -/
namespace Go.Proofs.Ytcgapfmdpchemaa
open Go.RowKit
theorem info94 : (Try.prog.info? 94).map (fun i => (i.zero, i.size, i.bytes)) = some (some (.agg #[.string ByteArray.empty, .int .i64 0, .slice none 0 0]), 3, 48) := by kernel_rfl
theorem el83 : El 83 94 (.agg #[.string ByteArray.empty, .int .i64 0, .slice none 0 0]) 3 48 := ⟨Try.underlying83, info94, rfl, by decide, by decide⟩
section
variable {o : Oper} {a : Act} {w : World} {Q : Exit → Act → World → Prop} {K : Act → World → Prop}
theorem op_sl_core {t e s : Nat} (hu : Try.prog.underlying t = some (.slice e)) (hsz : (Try.prog.info? e).map (·.size) = some s) (x : Operand) (lo hi mx : Option Operand) (ho : o.op = .slice t x lo hi mx)
    {A : Option Addr} {n c : Nat} (hx : a.eval x = .slice A n c) {l h m : Nat}
    (hb : (Instr.sliceBounds true n c (lo.map a.eval) (hi.map a.eval) (mx.map a.eval)).run Try.prog w = .ok (l, h, m) w)
    (hk : K (a.put o.dst (.slice (cut A l m s) (h - l) (m - l))) w) : o.wp Try.prog a w K Q := by
  unfold Oper.wp execOp
  simp only [ho, hx, Sem.run_bind, run_cut hu hsz w A n c _ _ _ l h m hb, Result.andThen_ok, Sem.run_pure]
  exact hk
/-- x[lo:hi] -/
theorem op_sl_lh {t e s : Nat} (hu : Try.prog.underlying t = some (.slice e)) (hsz : (Try.prog.info? e).map (·.size) = some s) (x lo hi : Operand) (ho : o.op = .slice t x (some lo) (some hi) none)
    {A : Option Addr} {n c : Nat} (hx : a.eval x = .slice A n c) (l r q : Nat) {kl kh : IntKind} {L H : Int} (hlo : a.eval lo = .int kl L) (hL : L = (l : Int)) (hhi : a.eval hi = .int kh H) (hH : H = ((l + r : Nat) : Int))
    (hq : c = l + q) (hrq : r ≤ q) (hk : K (a.put o.dst (.slice (cut A l c s) r q)) w) : o.wp Try.prog a w K Q := by
  subst hL hH
  refine op_sl_core hu hsz x _ _ _ ho hx (l := l) (h := l + r) (m := c) ?_ ?_
  · simp only [Option.map_some, Option.map_none, hlo, hhi, Instr.sliceBounds, Sem.run_bind, Sem.run_pure, Result.andThen_ok, bound_ok _ _ _ _ (show l + r ≤ c by omega), bound_ok _ _ _ _ (show l ≤ l + r by omega)]
  · rw [show l + r - l = r by omega, show c - l = q by omega]; exact hk
/-- append to an owned row of what a slice reads as -/
theorem op_app_rd {t e size bytes : Nat} {z : Value} (el : El t e z size bytes) (s x : Operand)
    (ho : o.op = .call { callee := .builtin .append, args := #[s, x], argTypes := #[t, t] })
    {base : Nat} {v : Value} {n : Nat} {xs : List Value} (hs : a.eval s = v) (hown : w.ownsRow base e size v n xs)
    {vx : Value} {m : Nat} {news : List Value} (hx : a.eval x = vx) (hrd : Rd w vx m news) (hl : news.length = m * size) (h0 : news ≠ []) (h1 : ∀ u ∈ news, u.oneCell' = true)
    (hn : n + m ≤ 1000000000) (hbase : base ≤ w.heap.size)
    (h : ∀ v' w', w'.ownsRow base e size v' (n + m) (xs ++ news) → w.grownBy w' v.ownBlock → Below base w w' → K (a.put o.dst v') w') : o.wp Try.prog a w K Q := by
  obtain ⟨i0, hi, hz0, hz1, hz2⟩ := info_parts el.info
  obtain ⟨ad, c, rfl, _, _, hc⟩ := hrd
  obtain ⟨b, off, rfl, _⟩ := hc 0 (List.length_pos_iff.2 h0)
  have hb : (n + m) * bytes ≤ 1000000000 * 1000 := Nat.mul_le_mul hn el.small
  refine wp_append_own w s x t ho base e i0 z size bytes el.under hi hz0 hz1 hz2 el.cells el.pos v n xs hs hown ⟨b, off, none⟩ m c news hx hl ?_ h1 (by unfold maxLen; omega) (by omega) hbase fun v' w' h2 h3 _ => h v' w' h2 h3 (below_of_grown hown h3 hbase)
  intro j u hu
  rw [List.getElem?_eq_some_iff] at hu
  obtain ⟨hj, rfl⟩ := hu
  obtain ⟨b2, o2, he, hcc⟩ := hc j hj
  cases he
  rw [Addr.add_lit]
  exact hcc
/-- append of one element that has just been laid -/
theorem op_app_new {t e size bytes : Nat} {z : Value} (el : El t e z size bytes) (s x : Operand)
    (ho : o.op = .call { callee := .builtin .append, args := #[s, x], argTypes := #[t, t] }) {us : List Value}
    {base : Nat} {v : Value} {n : Nat} {xs : List Value} (hs : a.eval s = v) (hown : w.ownsRow base e size v n xs) {g : Nat} (hgw : g = w.heap.size)
    (hx : a.eval x = .slice (some ⟨g, 0, none⟩) 1 1) (hus : us.length = size) (h1 : ∀ u ∈ us, u.oneCell' = true)
    (hn : n + 1 ≤ 1000000000) (hbase : base ≤ w.heap.size)
    (h : ∀ v' w', w'.ownsRow base e size v' (n + 1) (xs ++ us) → w.grownBy w' v.ownBlock → Below base w w' → K (a.put o.dst v') w') : o.wp Try.prog a (w.alloc (.cells us.toArray e)) K Q := by
  subst hgw
  have h0 : us ≠ [] := by rintro rfl; have := el.pos; simp at hus; omega
  refine op_app_rd el s x ho hs (hown.alloc _) hx (Rd_new w us e _ 1 rfl) (by rw [hus, Nat.one_mul]) h0 h1 hn (by simp; omega) fun v' w' h2 hg h3 => h v' w' h2 ?_ ((((Below.refl _ w).alloc hbase _)).trans h3)
  exact ⟨hg.os, hg.tape, hg.output, Nat.le_trans (by simp) hg.size, fun k hk hr => (hg.block k (by simp; omega) hr).trans (heap_alloc_old w _ hk)⟩
end
section
variable {ops : Array Oper} {rest : List Oper} {o : Oper} {a : Act} {w : World} {Q : Exit → Act → World → Prop}
/-- the same in a plain region -/
theorem app_new {t e size bytes : Nat} {z : Value} (el : El t e z size bytes) (hgd : o.guard = none) (s x : Operand)
    (ho : o.op = .call { callee := .builtin .append, args := #[s, x], argTypes := #[t, t] }) {us : List Value}
    {base : Nat} {v : Value} {n : Nat} {xs : List Value} (hs : a.eval s = v) (hown : w.ownsRow base e size v n xs) {g : Nat} (hgw : g = w.heap.size)
    (hx : a.eval x = .slice (some ⟨g, 0, none⟩) 1 1) (hus : us.length = size) (h1 : ∀ u ∈ us, u.oneCell' = true)
    (hn : n + 1 ≤ 1000000000) (hbase : base ≤ w.heap.size)
    (h : ∀ v' w', w'.ownsRow base e size v' (n + 1) (xs ++ us) → w.grownBy w' v.ownBlock → Below base w w' → wpList Try.prog ops Q rest (a.put o.dst v') w') : wpList Try.prog ops Q (o :: rest) a (w.alloc (.cells us.toArray e)) :=
  wpList_plain hgd fun _ hK => op_app_new el s x ho hs hown hgw hx hus h1 hn hbase fun v' w' h2 h3 h4 => hK _ _ (h v' w' h2 h3 h4)
end
end Go.Proofs.Ytcgapfmdpchemaa
