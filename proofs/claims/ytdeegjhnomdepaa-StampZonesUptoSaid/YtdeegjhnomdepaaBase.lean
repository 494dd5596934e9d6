/- Plain words for walks: what a slice's cells hold, what a call leaves as it was. No program is named here. -/
import Derived.WalkKit
import Derived.KernelRfl
import Derived.RowKit3
import Derived.Maps.AppendAt
import Derived.Deep.QuietTactic
import Derived.BigQuiet
import Derived.WideLaws
import Derived.Deep.DeepCutAuto
import Derived.Deep.AppendLies
import Derived.Lib.ConvBytes
import Derived.Lib.AppendStr
set_option linter.unusedVariables false
set_option linter.unusedSimpArgs false
namespace Go.Proofs.Ytdeegjhnomdepaa.b
open Go.RowKit

/-- A fact that the walk's simp does not look into. -/
structure K (p : Prop) : Prop where mk :: (out : p)

def bvs (l : List UInt8) : List Value := l.map fun b => .int .u8 (b.toNat : Int)
theorem bvs_length (l : List UInt8) : (bvs l).length = l.length := by simp [bvs]
theorem bvs_append (l r : List UInt8) : bvs (l ++ r) = bvs l ++ bvs r := by simp [bvs]

/-- The cells from an address on hold these values. -/
def Rv (w : World) (A : Option Addr) (vs : List Value) : Prop := ∀ i v, vs[i]? = some v → ∃ ad, A = some ad ∧ w.cell? (ad.add i) = some v
theorem add_succ (ad : Addr) (i : Nat) : ad.add (i + 1) = ⟨ad.block, ad.off + (i + 1), none⟩ := by simp [Addr.add]
theorem Rv.nil (w : World) (A : Option Addr) : Rv w A [] := by intro i v h; simp at h
theorem Rv.below {w w' : World} {A : Option Addr} {vs : List Value} (h : Rv w A vs) (hb : Below w.heap.size w w') : Rv w' A vs := by
  intro i v hv
  obtain ⟨ad, rfl, hc⟩ := h i v hv
  exact ⟨ad, rfl, (hb.cell (World.block_lt_of_cell? w _ hc)).trans hc⟩
theorem Rv.byte {w : World} {A : Option Addr} {xs : List UInt8} (h : Rv w A (bvs xs)) (i : Nat) (hi : i < xs.length) : ∃ ad, A = some ad ∧ w.cell? (ad.add i) = some (.int .u8 ((xs[i]).toNat : Int)) :=
  h i _ (by simp [bvs, List.getElem?_eq_getElem hi])
theorem own_rv {w : World} {base n : Nat} {e : TypeId} {size : Nat} {v : Value} {xs : List Value} (h : w.ownsRow base e size v n xs) : ∃ A c, v = .slice A n c ∧ n ≤ c ∧ Rv w A xs := by
  rcases h.2 with ⟨rfl, rfl⟩ | ⟨g, cap, cur, rfl, _, _, hc, _⟩
  · have : xs = [] := List.eq_nil_of_length_eq_zero (by simpa using h.1)
    subst this
    exact ⟨none, 0, rfl, Nat.le_refl _, Rv.nil _ _⟩
  · exact ⟨_, cap, rfl, hc, fun i v hv => ⟨_, rfl, h.cells (g := g) rfl i v hv⟩⟩
theorem Rv.drop {w : World} {A : Option Addr} {vs : List Value} (h : Rv w A vs) (lo c : Nat) (hc : vs.length ≤ c) : Rv w (if c = lo then A else A.map (·.add lo)) (vs.drop lo) := by
  intro i v hv
  rw [List.getElem?_drop] at hv
  obtain ⟨ad, rfl, hc'⟩ := h _ _ hv
  have hlt : lo + i < vs.length := (List.getElem?_eq_some_iff.1 hv).1
  rw [if_neg (by omega)]
  exact ⟨ad.add lo, rfl, by rw [Addr.add_add]; exact hc'⟩
theorem Rv.take {w : World} {A : Option Addr} {vs : List Value} (h : Rv w A vs) (n : Nat) : Rv w A (vs.take n) := by
  intro i v hv
  rw [List.getElem?_take] at hv
  split at hv
  · exact h i v hv
  · cases hv

/-- The world is the old one, some orders having been drawn. -/
structure Dr (w w' : World) : Prop where mk :: (out : ∃ q, w' = w.drewN q)
theorem Dr.refl (w : World) : Dr w w := ⟨0, rfl⟩
theorem Dr.of_eq {w w' : World} (h : w' = w) : Dr w w' := ⟨0, h⟩
theorem Dr.step {w w' : World} (h : Dr w w') (n : Nat) : Dr w (w'.drewN n) := by
  obtain ⟨q, rfl⟩ := h
  exact ⟨q + n, World.drewN_drewN ..⟩
theorem Dr.trans {w w1 w2 : World} (h : Dr w w1) (k : Dr w1 w2) : Dr w w2 := by
  obtain ⟨q, rfl⟩ := k
  exact h.step q
theorem Dr.cell {w w' : World} (h : Dr w w') (a : Addr) : w'.cell? a = w.cell? a := by
  obtain ⟨q, rfl⟩ := h
  rfl
theorem Dr.heap {w w' : World} (h : Dr w w') : w'.heap = w.heap := by
  obtain ⟨q, rfl⟩ := h
  rfl
theorem Dr.below {w w' : World} (h : Dr w w') (B : Nat) : Below B w w' := by
  obtain ⟨q, rfl⟩ := h
  induction q with
  | zero => exact Below.refl _ _
  | succ n ih => rw [← World.drew_drewN]; exact ih.drew
theorem Dr.rv {w w' : World} (h : Dr w w') {A : Option Addr} {vs : List Value} (k : Rv w A vs) : Rv w' A vs := by
  obtain ⟨q, rfl⟩ := h
  exact k
theorem Dr.quiet {P : Program} {f : FuncId} {args : Array Value} {w : World} {n : Nat} {v : Value}
    (h : Calls P f args (w.drewN n) fun e w' => e = .returned v ∧ Dr (w.drewN n) w') : Calls P f args (w.drewN n) fun e w'' => e = .returned v ∧ ∃ m, w'' = w.drewN m :=
  h.mono fun _ _ ⟨he, ⟨m, hm⟩⟩ => ⟨he, n + m, by rw [hm, World.drewN_drewN]⟩

/-! ### append onto a row of the call's own -/
section
variable {P : Program} {ops : Array Oper} {rest : List Oper} {o : Oper} {a : Act} {Q : Exit → Act → World → Prop}
theorem alloc_rv (W : World) (cs : List Value) (e : TypeId) : Rv (W.alloc (.cells cs.toArray e)) (some ⟨W.heap.size, 0, none⟩) cs := fun i v hv => ⟨_, rfl, World.news_of_block (cs := cs.toArray) (t := e) (fr := (0, 0)) (heap_alloc_new W _) i v (by simpa using hv)⟩
/-- 'append(s, x..)', the new cells told as a list, wherever they lie: one operation. -/
theorem wp_app {w0 W : World} {base : Nat} {K' : Act → World → Prop} (s x : Operand) (t e : TypeId) (z : Value) (size bytes : Nat)
    (ho : o.op = .call { callee := .builtin .append, args := #[s, x], argTypes := #[t, t] })
    (ht : P.underlying t = some (.slice e)) (hinfo : (P.info? e).map (fun i => (i.zero, i.size, i.bytes)) = some (some z, size, bytes)) (hzs : z.cells.size = size) (hsz : 0 < size)
    (v : Value) (n : Nat) (xs : List Value) (A : Option Addr) (m c : Nat) (news : List Value) (hs : a.eval s = v) (hx : a.eval x = .slice A m c) (hlen : news.length = m * size)
    (HO : K (W.ownsRow base e size v n xs)) (HB : K (Below base w0 W)) (hbase : base ≤ W.heap.size) (HN : Rv W A news) (h1 : ∀ u ∈ news, u.oneCell' = true) (hl : (n + m) * bytes ≤ 140737488355328) (hl2 : n + m ≤ 140737488355328)
    (h : ∀ v1 w1, K (w1.ownsRow base e size v1 (n + m) (xs ++ news)) → K (Below base w0 w1) → K (W.grownBy w1 v.ownBlock ∧ (v1.ownBlock = v.ownBlock ∨ v1.ownBlock = some W.heap.size)) → K' (a.put o.dst v1) w1) :
    Oper.wp P o a W K' Q := by
  obtain ⟨i0, hi, hz0, hz1, hz2⟩ := info_parts hinfo
  have key : ∀ (v1 : Value) (w1 : World), w1.ownsRow base e size v1 (n + m) (xs ++ news) → W.grownBy w1 v.ownBlock → (v1.ownBlock = v.ownBlock ∨ v1.ownBlock = some W.heap.size) → K' (a.put o.dst v1) w1 := fun v1 w1 hown hg hat =>
    h v1 w1 ⟨hown⟩ ⟨HB.out.grown hg hbase fun k hk => (HO.out.lt k hk).1⟩ ⟨hg, hat⟩
  cases A with
  | none =>
    have hnn : news = [] := by
      cases news with
      | nil => rfl
      | cons u r => obtain ⟨ad, hh, _⟩ := HN 0 u rfl; cases hh
    subst hnn
    have hm : m = 0 := by
      have : m * size = 0 := by simpa using hlen.symm
      rcases Nat.mul_eq_zero.1 this with h | h <;> omega
    subst hm
    have hrun : (Builtin.append_ #[t, t] o.type #[v, .slice none 0 c]).run P W = .ok v W := by
      rcases HO.out.2 with ⟨rfl, rfl⟩ | ⟨g, cap, cur, rfl, _, _, hnc, _⟩
      · simp [Builtin.append_, run_underlying ht, sizeOf, typeInfo, hi, Builtin.lenOf, Builtin.firstCells]
      · simp [Builtin.append_, run_underlying ht, sizeOf, typeInfo, hi, Builtin.lenOf, Builtin.firstCells, hnc, storeCells]
    unfold Oper.wp
    simp [execOp, ho, resolve, invoke, builtin, hs, hx, hrun, Result.andThen]
    exact key v W (by simpa using HO.out) (World.grownBy.refl _ _) (.inl rfl)
  | some ad =>
    obtain ⟨v1, w1, hrun, hown, hg, _, hat⟩ := run_append_own_at (P := P) W base t o.type e i0 z size bytes ht hi hz0 hz1 hz2 hzs hsz v n xs HO.out ad m c news hlen (fun j u hu => by obtain ⟨ad', hh, hc⟩ := HN j u hu; cases hh; exact hc) h1 (by simp only [maxLen]; omega) hl hbase
    unfold Oper.wp
    simp [execOp, ho, resolve, invoke, builtin, hs, hx, hrun, Result.andThen]
    exact key v1 w1 hown hg hat
/-- The same in a list of operations. -/
theorem app {w0 W : World} {base : Nat} (hgd : o.guard = none) (s x : Operand) (t e : TypeId) (z : Value) (size bytes : Nat)
    (ho : o.op = .call { callee := .builtin .append, args := #[s, x], argTypes := #[t, t] })
    (ht : P.underlying t = some (.slice e)) (hinfo : (P.info? e).map (fun i => (i.zero, i.size, i.bytes)) = some (some z, size, bytes)) (hzs : z.cells.size = size) (hsz : 0 < size)
    (v : Value) (n : Nat) (xs : List Value) (A : Option Addr) (m c : Nat) (news : List Value) (hs : a.eval s = v) (hx : a.eval x = .slice A m c) (hlen : news.length = m * size)
    (HO : K (W.ownsRow base e size v n xs)) (HB : K (Below base w0 W)) (hbase : base ≤ W.heap.size) (HN : Rv W A news) (h1 : ∀ u ∈ news, u.oneCell' = true) (hl : (n + m) * bytes ≤ 140737488355328) (hl2 : n + m ≤ 140737488355328)
    (h : ∀ v1 w1, K (w1.ownsRow base e size v1 (n + m) (xs ++ news)) → K (Below base w0 w1) → K (W.grownBy w1 v.ownBlock ∧ (v1.ownBlock = v.ownBlock ∨ v1.ownBlock = some W.heap.size)) → wpList P ops Q rest (a.put o.dst v1) w1) :
    wpList P ops Q (o :: rest) a W :=
  wpList_plain hgd fun K' hK' => wp_app s x t e z size bytes ho ht hinfo hzs hsz v n xs A m c news hs hx hlen HO HB hbase HN h1 hl hl2 fun v1 w1 k1 k2 k3 => hK' _ _ (h v1 w1 k1 k2 k3)
/-- The same in a region that draws its order ('go_region_law'). -/
theorem stepApp {w0 W : World} {base : Nat} {K' : Act → World → Prop} {E : Prop} (hgd : o.guard = none) (s x : Operand) (t e : TypeId) (z : Value) (size bytes : Nat)
    (ho : o.op = .call { callee := .builtin .append, args := #[s, x], argTypes := #[t, t] })
    (ht : P.underlying t = some (.slice e)) (hinfo : (P.info? e).map (fun i => (i.zero, i.size, i.bytes)) = some (some z, size, bytes)) (hzs : z.cells.size = size) (hsz : 0 < size)
    (v : Value) (n : Nat) (xs : List Value) (A : Option Addr) (m c : Nat) (news : List Value) (hs : a.eval s = v) (hx : a.eval x = .slice A m c) (hlen : news.length = m * size)
    (HO : K (W.ownsRow base e size v n xs)) (HB : K (Below base w0 W)) (hbase : base ≤ W.heap.size) (HN : Rv W A news) (h1 : ∀ u ∈ news, u.oneCell' = true) (hl : (n + m) * bytes ≤ 140737488355328) (hl2 : n + m ≤ 140737488355328)
    (h : ∀ v1 w1, K (w1.ownsRow base e size v1 (n + m) (xs ++ news)) → K (Below base w0 w1) → K (W.grownBy w1 v.ownBlock ∧ (v1.ownBlock = v.ownBlock ∨ v1.ownBlock = some W.heap.size)) → K' (a.put o.dst v1) w1) :
    if Region.wanted o (yielded ops a.tmps) = true then Oper.wp P o a W K' Q else E := by
  rw [if_pos (by simp [Region.wanted, hgd])]
  exact wp_app s x t e z size bytes ho ht hinfo hzs hsz v n xs A m c news hs hx hlen HO HB hbase HN h1 hl hl2 h
/-- A call of a Go function by its contract, in a region that draws its order ('go_region_law'). -/
theorem stepCall {W : World} {K' : Act → World → Prop} {E : Prop} (hgd : o.guard = none) (f : FuncId) (fn : Func) (hf : P.funcs[f]? = some fn) (hname : (fn.name == "runtime.NumGoroutine") = false) (hb : fn.body.isNone = false) (as : List Operand) (ts : Array TypeId)
    (ho : o.op = .call { callee := .value (.func f), args := as.toArray, argTypes := ts }) (vs : List Value) (hargs : as.map a.eval = vs) (R : Ending → World → Prop) (hc : Calls P f vs.toArray W R)
    (h : ∀ e w', R e w' → ∃ v, e = .returned v ∧ K' (a.put o.dst v) w') :
    if Region.wanted o (yielded ops a.tmps) = true then Oper.wp P o a W K' Q else E := by
  rw [if_pos (by simp [Region.wanted, hgd])]
  unfold Oper.wp
  subst hargs
  have hrun : (callFunc f (as.map a.eval).toArray).run P W = .ok (.enter f (as.map a.eval).toArray) W := by
    have hn' : ¬ fn.name = "runtime.NumGoroutine" := by simpa using hname
    have hb' : ¬ fn.body = none := by intro e; rw [e] at hb; cases hb
    simp [callFunc, hf, hn', hb']
  have hrun2 : (execOp a.eval o).run P W = .ok (.enter f (as.map a.eval).toArray) W := by
    simp only [execOp, ho, resolve]
    simpa [Act.eval, Deferred.ofValue, invoke, Result.andThen] using hrun
  rw [hrun2, Oper.upon_enter]
  refine hc.mono fun e w' hr => ?_
  obtain ⟨v, rfl, hk⟩ := h e w' hr
  exact hk
/-- 'append(s, x, y)': the new cells lie in a box that was just made. -/
theorem app1 {w0 W : World} {base : Nat} (hgd : o.guard = none) (s x : Operand) (t e : TypeId) (z : Value) (size bytes : Nat)
    (ho : o.op = .call { callee := .builtin .append, args := #[s, x], argTypes := #[t, t] })
    (ht : P.underlying t = some (.slice e)) (hinfo : (P.info? e).map (fun i => (i.zero, i.size, i.bytes)) = some (some z, size, bytes)) (hzs : z.cells.size = size) (hsz : 0 < size)
    (v : Value) (n : Nat) (xs : List Value) (m c : Nat) (news : List Value) (hs : a.eval s = v) (hx : a.eval x = .slice (some ⟨W.heap.size, 0, none⟩) m c) (hlen : news.length = m * size)
    (HO : K (W.ownsRow base e size v n xs)) (HB : K (Below base w0 W)) (hbase : base ≤ W.heap.size) (h1 : ∀ u ∈ news, u.oneCell' = true) (hl : (n + m) * bytes ≤ 140737488355328) (hl2 : n + m ≤ 140737488355328)
    (h : ∀ v1 w1, K (w1.ownsRow base e size v1 (n + m) (xs ++ news)) → K (Below base w0 w1) → K (W.grownBy w1 v.ownBlock ∧ (v1.ownBlock = v.ownBlock ∨ ∃ k, v1.ownBlock = some k ∧ W.heap.size ≤ k)) → wpList P ops Q rest (a.put o.dst v1) w1) :
    wpList P ops Q (o :: rest) a (W.alloc (.cells news.toArray e)) :=
  app hgd s x t e z size bytes ho ht hinfo hzs hsz v n xs _ m c news hs hx hlen ⟨HO.out.alloc _⟩ ⟨HB.out.alloc hbase _⟩ (by simp; omega) (alloc_rv _ _ _) h1 hl hl2 fun v1 w1 k1 k2 k3 =>
    h v1 w1 k1 k2 ⟨World.grownBy.trans (World.grownBy_alloc W _ _) k3.out.1, k3.out.2.imp_right fun hk => ⟨_, hk, by simp⟩⟩
/-- 'make([]T, 0, n)'. -/
theorem mk0 {w0 W : World} {base : Nat} (hgd : o.guard = none) (l c : Operand) (t e : TypeId) (z : Value) (size bytes : Nat) (hop : o.op = Op.makeSlice t l c)
    (ht : P.underlying t = some (.slice e)) (hinfo : (P.info? e).map (fun i => (i.zero, i.size, i.bytes)) = some (some z, size, bytes))
    (kl kc : IntKind) (C : Int) (n : Nat) (hl : a.eval l = .int kl 0) (hc : a.eval c = .int kc C) (hC : C = (n : Int)) (HB : K (Below base w0 W)) (hbase : base ≤ W.heap.size) (b2 : bytes * n ≤ 281474976710656) (b3 : n ≤ 281474976710656)
    (h : ∀ w1, K (w1.ownsRow base e size (.slice (some ⟨W.heap.size, 0, none⟩) 0 n) 0 []) → K (Below base w0 w1) → K (Below W.heap.size W w1) → wpList P ops Q rest (a.put o.dst (.slice (some ⟨W.heap.size, 0, none⟩) 0 n)) w1) :
    wpList P ops Q (o :: rest) a W := by
  obtain ⟨i0, hi, hz0, hz1, hz2⟩ := info_parts hinfo
  refine wpList_make_own W hgd l c t hop base e i0 z size ht hi hz0 hz1 kl kc C n hl hc hC (by rw [hz2]; exact b2) (by simp only [maxLen]; omega) hbase ?_
  intro w1 hown hg
  have hb : Below W.heap.size W w1 := ⟨hg.os, hg.tape, hg.output, hg.size, fun k hk => hg.block k hk (by simp)⟩
  exact h w1 ⟨hown⟩ ⟨HB.out.trans (hb.mono hbase)⟩ ⟨hb⟩
/-- 'append' where there is room: the value is known. -/
theorem appFits {w0 W : World} {base : Nat} (hgd : o.guard = none) (s x : Operand) (t e : TypeId) (z : Value) (size bytes : Nat)
    (ho : o.op = .call { callee := .builtin .append, args := #[s, x], argTypes := #[t, t] })
    (ht : P.underlying t = some (.slice e)) (hinfo : (P.info? e).map (fun i => (i.zero, i.size, i.bytes)) = some (some z, size, bytes)) (hsz : 0 < size)
    (g n cap : Nat) (xs : List Value) (A : Option Addr) (m c : Nat) (news : List Value) (hs : a.eval s = .slice (some ⟨g, 0, none⟩) n cap) (hx : a.eval x = .slice A m c) (hlen : news.length = m * size)
    (HO : K (W.ownsRow base e size (.slice (some ⟨g, 0, none⟩) n cap) n xs)) (HB : K (Below base w0 W)) (hbase : base ≤ W.heap.size) (HN : Rv W A news) (h1 : ∀ u ∈ news, u.oneCell' = true) (hr : n + m ≤ cap)
    (h : ∀ w1, K (w1.ownsRow base e size (.slice (some ⟨g, 0, none⟩) (n + m) cap) (n + m) (xs ++ news)) → K (Below base w0 w1) → K (W.grownBy w1 (some g)) → wpList P ops Q rest (a.put o.dst (.slice (some ⟨g, 0, none⟩) (n + m) cap)) w1) :
    wpList P ops Q (o :: rest) a W := by
  obtain ⟨i0, hi, hz0, hz1, hz2⟩ := info_parts hinfo
  have hg0 : base ≤ g := (HO.out.lt g rfl).1
  cases A with
  | none =>
    have hnn : news = [] := by
      cases news with
      | nil => rfl
      | cons u r => obtain ⟨ad, hh, _⟩ := HN 0 u rfl; cases hh
    subst hnn
    have hm : m = 0 := by
      have : m * size = 0 := by simpa using hlen.symm
      rcases Nat.mul_eq_zero.1 this with h | h <;> omega
    subst hm
    refine wpList_plain hgd fun K' hK' => ?_
    have hrun : (Builtin.append_ #[t, t] o.type #[.slice (some ⟨g, 0, none⟩) n cap, .slice none 0 c]).run P W = .ok (.slice (some ⟨g, 0, none⟩) n cap) W := by
      simp [Builtin.append_, run_underlying ht, sizeOf, typeInfo, hi, Builtin.lenOf, Builtin.firstCells, show n ≤ cap from hr, storeCells]
    unfold Oper.wp
    simp [execOp, ho, resolve, invoke, builtin, hs, hx, hrun, Result.andThen]
    exact hK' _ _ (h W (by simpa using HO) HB ⟨World.grownBy.refl _ _⟩)
  | some ad =>
    refine wpList_append_fits W hgd s x t ho base e i0 size ht hi hz1 g n cap xs hs HO.out ad m c news hx hlen (fun j u hu => by obtain ⟨ad', hh, hc⟩ := HN j u hu; cases hh; exact hc) h1 hr ?_
    intro w1 hown hg
    exact h w1 ⟨hown⟩ ⟨HB.out.grown hg hbase fun k hk => by cases hk; exact hg0⟩ ⟨hg⟩
/-- 'append([]T{x, y}, z..)': onto a literal that was just made. -/
theorem appLit {w0 W : World} {base : Nat} (hgd : o.guard = none) (s x : Operand) (t e : TypeId) (z : Value) (size bytes : Nat)
    (ho : o.op = .call { callee := .builtin .append, args := #[s, x], argTypes := #[t, t] })
    (ht : P.underlying t = some (.slice e)) (hinfo : (P.info? e).map (fun i => (i.zero, i.size, i.bytes)) = some (some z, size, bytes)) (hzs : z.cells.size = size) (hsz : 0 < size)
    (n : Nat) (xs : List Value) (A : Option Addr) (m c : Nat) (news : List Value) (hs : a.eval s = .slice (some ⟨W.heap.size, 0, none⟩) n n) (hx : a.eval x = .slice A m c) (hlx : xs.length = n * size) (hlen : news.length = m * size)
    (HB : K (Below base w0 W)) (hbase : base ≤ W.heap.size) (HN : K (Rv W A news)) (h1 : ∀ u ∈ news, u.oneCell' = true) (hl : (n + m) * bytes ≤ 140737488355328) (hl2 : n + m ≤ 140737488355328)
    (h : ∀ v1 w1, K (w1.ownsRow base e size v1 (n + m) (xs ++ news)) → K (Below base w0 w1) → wpList P ops Q rest (a.put o.dst v1) w1) :
    wpList P ops Q (o :: rest) a (W.alloc (.cells xs.toArray e)) :=
  app hgd s x t e z size bytes ho ht hinfo hzs hsz _ n xs A m c news hs hx hlen
    ⟨by have := World.ownsRow_lit (e := e) (base := base) (size := size) W xs.toArray n hbase (by simp only [maxLen]; omega) (by simpa using hlx); simpa using this⟩
    ⟨HB.out.alloc hbase _⟩ (by simp; omega) (HN.out.below ((Below.refl _ W).alloc (Nat.le_refl _) _)) h1 hl hl2 fun v1 w1 k1 k2 _ => h v1 w1 k1 k2
end
theorem bvs_one (l : List UInt8) : ∀ u ∈ bvs l, u.oneCell' = true := by
  intro u hu
  obtain ⟨_, _, rfl⟩ := List.mem_map.1 hu
  rfl
theorem ofNat_cast (k : Nat) : ((UInt8.ofNat k).toNat : Int) = (k : Int) % 256 := by simp
theorem bvs_cons (b : UInt8) (l : List UInt8) : bvs (b :: l) = .int .u8 (b.toNat : Int) :: bvs l := rfl
/-- A row of the call's own, as far as its room goes. -/
theorem own_full {w : World} {base e size g n cap : Nat} {xs : List Value} (h : w.ownsRow base e size (.slice (some ⟨g, 0, none⟩) n cap) n xs) : ∃ ys, w.ownsRow base e size (.slice (some ⟨g, 0, none⟩) cap cap) cap ys ∧ ys.take (n * size) = xs ∧ n ≤ cap := by
  rcases h.2 with ⟨h', _⟩ | ⟨g', cap', cur, h', hb, hg, hnc, hcm, hcs, htake⟩
  · simp at h'
  · simp only [Value.slice.injEq, Option.some.injEq, Addr.mk.injEq, and_true, true_and] at h'
    obtain ⟨rfl, rfl⟩ := h'
    exact ⟨cur.toList, ⟨by simpa using hcs, .inr ⟨g, cap, cur, rfl, hb, hg, Nat.le_refl _, hcm, hcs, List.take_of_length_le (by rw [Array.length_toList, hcs]; exact Nat.le_refl _)⟩⟩, htake, hnc⟩
theorem own_len {w : World} {base e size n : Nat} {v : Value} {xs : List Value} (h : w.ownsRow base e size v n xs) : xs.length = n * size := h.1
theorem thn {w w1 w2 : World} (h : Below w.heap.size w w1) (k : Below w1.heap.size w1 w2) : Below w.heap.size w w2 := h.trans (k.mono h.size)
theorem pwn {w w1 : World} {base : Nat} {e : TypeId} {size n : Nat} {v : Value} {xs : List Value} (h : w.ownsRow base e size v n xs) (hb : Below w.heap.size w w1) : w1.ownsRow base e size v n xs :=
  h.kept (row := none) ⟨hb.os, hb.tape, hb.output, hb.size, fun k hk _ => hb.block k hk⟩ (by cases v.ownBlock <;> simp)
theorem own_lower {w : World} {base base' n : Nat} {e : TypeId} {size : Nat} {v : Value} {xs : List Value} (h : w.ownsRow base e size v n xs) (hb : base' ≤ base) : w.ownsRow base' e size v n xs := by
  refine ⟨h.1, ?_⟩
  rcases h.2 with h2 | ⟨g, cap, cur, hv, hg, r⟩
  · exact .inl h2
  · exact .inr ⟨g, cap, cur, hv, Nat.le_trans hb hg, r⟩
theorem own_rvg {w : World} {base n g cap : Nat} {e : TypeId} {size : Nat} {xs : List Value} (h : w.ownsRow base e size (.slice (some ⟨g, 0, none⟩) n cap) n xs) : Rv w (some ⟨g, 0, none⟩) xs :=
  fun i v hv => ⟨_, rfl, h.cells (g := g) rfl i v hv⟩
theorem own_take {w : World} {base n g cap : Nat} {e : TypeId} {size : Nat} {xs : List Value} (h : w.ownsRow base e size (.slice (some ⟨g, 0, none⟩) n cap) n xs) (m : Nat) : Rv w (some ⟨g, 0, none⟩) (xs.take m) := (own_rvg h).take m
/-- 'string(b)' of bytes that are told. -/
theorem conv (P : Program) (w : World) (src e dst : TypeId) (hs : P.underlying src = some (.slice e)) (he : P.underlying e = some (.int .u8)) (hd : P.underlying dst = some .string) (A : Option Addr) (n c : Nat) (xs : List UInt8) (hA : Rv w A (bvs xs)) (hn : xs.length = n) :
    (convert src dst (.slice A n c)).run P w = .ok (.string ⟨xs.toArray⟩) w := by
  subst hn
  cases A with
  | none =>
    have : xs = [] := by
      cases xs with
      | nil => rfl
      | cons u r => obtain ⟨ad, hh, _⟩ := hA 0 _ (by simp [bvs]; rfl); cases hh
    subst this
    exact run_convert_bytes_nil w src e hs he _ _ dst hd
  | some ad => exact run_convert_bytes_back w src dst e ad c xs hs he hd (fun j hj => by obtain ⟨ad', hh, hc⟩ := hA.byte j hj; cases hh; exact hc)
/-- 'string(b)' of bytes that are told, in every world in which nothing of theirs has turned. -/
theorem conv_all (P : Program) (w : World) (src e dst : TypeId) (hs : P.underlying src = some (.slice e)) (he : P.underlying e = some (.int .u8)) (hd : P.underlying dst = some .string) (A : Option Addr) (n c : Nat) (xs : List UInt8) (hA : Rv w A (bvs xs)) (hn : xs.length = n) :
    ∀ W, Below w.heap.size w W → (convert src dst (.slice A n c)).run P W = .ok (.string ⟨xs.toArray⟩) W :=
  fun W hb => conv P W src e dst hs he hd A n c xs (hA.below hb) hn
end Go.Proofs.Ytdeegjhnomdepaa.b

