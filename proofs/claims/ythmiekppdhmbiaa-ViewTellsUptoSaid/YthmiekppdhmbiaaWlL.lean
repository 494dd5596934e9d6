/- Values and memory told without addresses: operations in any order, the invariant. -/
import Derived.Test.YthmiekppdhmbiaaWlK
set_option linter.unusedVariables false
set_option linter.unusedSimpArgs false
namespace Go.Wl
variable {P : Program}

def pre (o : Oper) : List Nat := (o.after.toList.filter (Region.binds .any)).map (·.on)
/-- What an operation waits for. -/
inductive Kd where
  | ch (ds : List Nat) (p : Bool)
  | pu
  | la (ls : List Nat)
def Kd.st (k : Kd) (s : St) : St := match k with
  | .la _ => { s with hp := [] }
  | _ => s
/-- What a pure operation yields, its guard looked at. -/
def Redo (P : Program) (ops : Array Oper) (o : Oper) (s : St) (v : AV) : Prop :=
  match o.guard with
  | none => aval P o.op s = some v
  | some (j, want) => ∃ b, gd ops s j want = some b ∧ (b = true → aval P o.op s = some v) ∧ (b = false → v = und)

theorem operand_looks {ops : Array Oper} {o : Oper} {t : Tmp} (h : Operand.tmp t ∈ o.op.operands) : t ∈ o.looksAt ops :=
  List.mem_append_left _ (List.mem_filterMap.2 ⟨.tmp t, by simpa using h, rfl⟩)
theorem guard_looks {ops : Array Oper} {o : Oper} {j : Nat} {w : Bool} {t : Tmp} (h : o.guard = some (j, w)) (ht : (ops[j]?).bind (·.dst) = some t) : t ∈ o.looksAt ops := by
  unfold Oper.looksAt
  rw [h]
  simp only [ht]
  simp
theorem ev_looks {ops : Array Oper} {o : Oper} {s s' : St} (h : ∀ t ∈ o.looksAt ops, s'.get t = s.get t) (x : Operand) (hx : x ∈ o.op.operands) : s'.ev x = s.ev x := by
  cases x with
  | tmp t => exact h t (operand_looks hx)
  | _ => rfl
theorem gd_looks {ops : Array Oper} {o : Oper} {s s' : St} (h : ∀ t ∈ o.looksAt ops, s'.get t = s.get t) {j : Nat} {w : Bool} (hg : o.guard = some (j, w)) : gd ops s' j w = gd ops s j w := by
  unfold gd
  cases ht : (ops[j]?).bind (·.dst) with
  | none => rfl
  | some t => simp only [h t (guard_looks hg ht)]
theorem Redo.congr {ops : Array Oper} {o : Oper} {s s' : St} {v : AV} (hh : s'.hp = s.hp) (h : ∀ t ∈ o.looksAt ops, s'.get t = s.get t) (hr : Redo P ops o s v) : Redo P ops o s' v := by
  have he : aval P o.op s' = aval P o.op s := aval_congr hh (ev_looks h)
  unfold Redo at *
  split at hr
  · rename_i hg
    rw [he]; exact hr
  · rename_i j w hg
    rw [he, gd_looks h hg]; exact hr
/-- Done, whenever it is. -/
theorem Redo.run {ops : Array Oper} {o : Oper} {i : Nat} (ho : ops[i]? = some o) {s : St} {v : AV} (hr : Redo P ops o s v) {g : G} {a : Act} {w : World} (h : Sim g s a w) (Q : Exit → Act → World → Prop) :
    ∃ u, Rel g w u v ∧ ∀ K : Act → World → Prop, K (a.put o.dst u) w → wpOp P ops Q i K a w := by
  have hyes : aval P o.op s = some v → Region.wanted o (yielded ops a.tmps) = true → ∃ u, Rel g w u v ∧ ∀ K : Act → World → Prop, K (a.put o.dst u) w → wpOp P ops Q i K a w := fun hv hw => by
    obtain ⟨u, h1, h2⟩ := aval_sound h hv
    refine ⟨u, h2, fun K hK => ?_⟩
    unfold wpOp
    simp only [ho, hw, if_true, Oper.wp, h1, Oper.upon]
    exact .inl hK
  unfold Redo at hr
  split at hr
  · rename_i hg
    exact hyes hr (by unfold Region.wanted; rw [hg])
  · rename_i j want hg
    obtain ⟨b, hb, h1, h2⟩ := hr
    have hwant : Region.wanted o (yielded ops a.tmps) = b := by
      unfold Region.wanted
      rw [hg]
      exact gd_spec h hb
    cases b with
    | true => exact hyes (h1 rfl) hwant
    | false =>
      refine ⟨undef, by rw [h2 rfl]; exact und_rel _ _, fun K hK => ?_⟩
      unfold wpOp
      simp only [ho, hwant, Bool.false_eq_true, if_false]
      exact hK

/-- What may be done still. -/
structure Rec where
  i : Nat
  o : Oper
  s : St
  v : AV
structure J (P : Program) (ops : Array Oper) (g : G) (s : St) (ps : List Rec) (a : Act) (w : World) : Prop where
  n : a.tmps.size = s.n
  df : a.defers = []
  hp : SimH g s.hp w
  tm : ∀ t, (∀ r ∈ ps, r.o.dst ≠ some t) → Rel g w (a.tmps.getD t undef) (s.get t)
  op : ∀ r ∈ ps, ops[r.i]? = some r.o
  sn : ∀ r ∈ ps, r.s.n = s.n
  dv : ∀ r ∈ ps, ∀ d, r.o.dst = some d → d < s.n ∧ s.get d = r.v
  re : ∀ r ∈ ps, Redo P ops r.o r.s r.v
  sh : ∀ r ∈ ps, r.s.hp = [] ∨ r.s.hp = s.hp
  no : ∀ r ∈ ps, ∀ t, t ∉ r.o.looksAt ops → r.s.get t = .any
  lo : ∀ r ∈ ps, ∀ t ∈ r.o.looksAt ops, (∃ r' ∈ ps, r'.o.dst = some t ∧ r'.i ∈ pre r.o ∧ r'.v = r.s.get t) ∨
    ((∀ r' ∈ ps, r'.o.dst = some t → r.i ∈ pre r'.o) ∧ Rel g w (a.tmps.getD t undef) (r.s.get t))
  ds : ∀ r ∈ ps, ∀ r' ∈ ps, r.i ≠ r'.i → r.o.dst ≠ none → r.o.dst ≠ r'.o.dst

theorem getD_put {a : Act} {x : Option Tmp} {v : Value} {t : Nat} (h : x ≠ some t) : (a.put x v).tmps.getD t undef = a.tmps.getD t undef := by
  cases x with
  | none => rfl
  | some d =>
    have : d ≠ t := fun e => h (e ▸ rfl)
    simp [Act.put, Array.getElem?_setIfInBounds_ne this]
theorem getD_put_same {a : Act} {t : Nat} {v : Value} (h : t < a.tmps.size) : (a.put (some t) v).tmps.getD t undef = v := by
  simp [Act.put, h]
theorem put_size {a : Act} {x : Option Tmp} {v : Value} : (a.put x v).tmps.size = a.tmps.size := by cases x <;> simp [Act.put]
theorem put_defers {a : Act} {x : Option Tmp} {v : Value} : (a.put x v).defers = a.defers := by cases x <;> rfl
theorem SimH.none {g : G} {hp : Hp} {w : World} (h : SimH g hp w) : SimH g [] w := (h.less (hp' := []) fun n ob hn => by cases hn).1

theorem J.sim {ops : Array Oper} {g : G} {s : St} {ps : List Rec} {a : Act} {w : World} (h : J P ops g s ps a w) {r : Rec} (hr : r ∈ ps) (hp : ∀ r' ∈ ps, r'.i ∉ pre r.o) : Sim g r.s a w := by
  refine ⟨by rw [h.sn r hr]; exact h.n, h.df, fun t => ?_, ?_⟩
  · by_cases ht : t ∈ r.o.looksAt ops
    · rcases h.lo r hr t ht with ⟨r', h1, _, h2, _⟩ | ⟨_, h2⟩
      · exact absurd h2 (hp r' h1)
      · exact h2
    · rw [h.no r hr t ht]; exact .any
  · rcases h.sh r hr with e | e
    · rw [e]; exact h.hp.none
    · rw [e]; exact h.hp
def rmv (ps : List Rec) (i : Nat) : List Rec := ps.filter fun x => !(Nat.beq x.i i)
theorem mem_rmv {ps : List Rec} {i : Nat} {r : Rec} : r ∈ rmv ps i ↔ r ∈ ps ∧ r.i ≠ i := by
  unfold rmv
  simp only [List.mem_filter, Bool.not_eq_true']
  refine and_congr_right fun _ => ⟨fun h e => ?_, fun h => ?_⟩
  · subst e; simp at h
  · cases hb : Nat.beq r.i i
    · rfl
    · exact absurd (Nat.eq_of_beq_eq_true hb) h
/-- One of them is done. -/
theorem J.redo {ops : Array Oper} {g : G} {s : St} {ps : List Rec} {a : Act} {w : World} (h : J P ops g s ps a w) {r : Rec} (hr : r ∈ ps) (hp : ∀ r' ∈ ps, r'.i ∉ pre r.o) (huniq : ∀ r' ∈ ps, r'.i = r.i → r' = r) (hself : r.i ∉ pre r.o) (Q : Exit → Act → World → Prop) :
    ∃ u, (∀ K : Act → World → Prop, K (a.put r.o.dst u) w → wpOp P ops Q r.i K a w) ∧ J P ops g s (rmv ps r.i) (a.put r.o.dst u) w := by
  obtain ⟨u, h1, h2⟩ := (h.re r hr).run (h.op r hr) (h.sim hr hp) Q
  refine ⟨u, h2, ?_⟩
  have hsub : ∀ r' ∈ rmv ps r.i, r' ∈ ps := fun r' h => (mem_rmv.1 h).1
  refine ⟨put_size.trans h.n, put_defers.trans h.df, h.hp, fun t ht => ?_, fun r' q => h.op r' (hsub r' q), fun r' q => h.sn r' (hsub r' q), fun r' q => h.dv r' (hsub r' q), fun r' q => h.re r' (hsub r' q), fun r' q => h.sh r' (hsub r' q), fun r' q => h.no r' (hsub r' q), fun r' q t ht => ?_, fun x hx y hy => h.ds x (hsub x hx) y (hsub y hy)⟩
  · by_cases e : r.o.dst = some t
    · obtain ⟨q1, q2⟩ := h.dv r hr t e
      rw [e, getD_put_same (by rw [h.n]; exact q1), q2]
      exact h1
    · rw [getD_put e]
      refine h.tm t fun r' hr' => ?_
      by_cases e' : r'.i = r.i
      · rw [huniq r' hr' e']; exact e
      · exact ht r' (mem_rmv.2 ⟨hr', e'⟩)
  · obtain ⟨hq, hne⟩ := mem_rmv.1 q
    rcases h.lo r' hq t ht with ⟨r'', k1, k2, k3, k4⟩ | ⟨k1, k2⟩
    · by_cases e : r''.i = r.i
      · have := huniq r'' k1 e
        subst this
        refine .inr ⟨fun x hx hd => ?_, ?_⟩
        · exact absurd (k2.trans hd.symm) (h.ds _ hr x (hsub x hx) (fun e => (mem_rmv.1 hx).2 e.symm) (by rw [k2]; simp))
        · obtain ⟨q1, q2⟩ := h.dv _ hr t k2
          rw [k2, getD_put_same (by rw [h.n]; exact q1), ← k4]
          exact h1
      · exact .inl ⟨r'', mem_rmv.2 ⟨k1, e⟩, k2, k3, k4⟩
    · refine .inr ⟨fun x hx hd => k1 x (hsub x hx) hd, ?_⟩
      rw [getD_put]
      · exact k2
      · intro e
        exact hp r' hq (k1 r hr e)

/-- All of them are done: the walk's own slots. -/
theorem J.fill {ops : Array Oper} {g : G} {s : St} {w : World} (hlt : ∀ (i : Nat) (o : Oper), ops[i]? = some o → ∀ p ∈ pre o, p < i) : ∀ (n : Nat) {ps : List Rec} {a : Act}, ps.length ≤ n → (∀ r ∈ ps, ∀ r' ∈ ps, r'.i = r.i → r' = r) → J P ops g s ps a w →
    ∃ b : Act, Sim g s b w ∧ b.tmps.size = a.tmps.size ∧ ∀ t, (∀ r ∈ ps, r.o.dst ≠ some t) → b.tmps.getD t undef = a.tmps.getD t undef := by
  intro n
  induction n with
  | zero =>
    intro ps a hl hu h
    have : ps = [] := List.eq_nil_of_length_eq_zero (by omega)
    subst this
    exact ⟨a, ⟨h.n, h.df, fun t => h.tm t (by simp), h.hp⟩, rfl, fun _ _ => rfl⟩
  | succ n ih =>
    intro ps a hl hu h
    by_cases he : ps = []
    · subst he
      exact ⟨a, ⟨h.n, h.df, fun t => h.tm t (by simp), h.hp⟩, rfl, fun _ _ => rfl⟩
    · have : ∃ n, ∃ r ∈ ps, r.i = n := by
        cases ps with
        | nil => exact absurd rfl he
        | cons r _ => exact ⟨r.i, r, by simp, rfl⟩
      obtain ⟨m, ⟨r, hr, e⟩, hmin⟩ := least _ this
      have hlow : ∀ r' ∈ ps, r'.i ∉ pre r.o := fun r' hr' hm => by
        have h1 := hlt r.i r.o (h.op r hr) r'.i hm
        have h2 := hmin r'.i ⟨r', hr', rfl⟩
        omega
      obtain ⟨u, _, hJ⟩ := h.redo hr hlow (fun r' hr' e => hu r hr r' hr' e) (fun hm => Nat.lt_irrefl _ (hlt r.i r.o (h.op r hr) r.i hm)) (fun _ _ _ => True)
      have hlen : (rmv ps r.i).length < ps.length := by
        have : (rmv ps r.i).length ≠ ps.length := fun e => by
          have := (List.length_filter_eq_length_iff (p := fun x : Rec => !(Nat.beq x.i r.i))).1 e r hr
          simp at this
        have h2 : (rmv ps r.i).length ≤ ps.length := List.length_filter_le _ _
        omega
      obtain ⟨b, hb, hsz, hag⟩ := ih (ps := rmv ps r.i) (by omega) (fun x hx y hy e => hu x (mem_rmv.1 hx).1 y (mem_rmv.1 hy).1 e) hJ
      refine ⟨b, hb, hsz.trans put_size, fun t ht => ?_⟩
      rw [hag t fun r' hr' => ht r' (mem_rmv.1 hr').1, getD_put (ht r hr)]
end Go.Wl

