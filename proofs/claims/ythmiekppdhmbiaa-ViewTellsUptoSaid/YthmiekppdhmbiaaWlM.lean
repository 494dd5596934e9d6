/- Values and memory told without addresses: operations in any order, the rule. -/
import Derived.Test.YthmiekppdhmbiaaWlL
set_option linter.unusedVariables false
set_option linter.unusedSimpArgs false
namespace Go.Wl
variable {P : Program}

theorem eval_off {ops : Array Oper} {o : Oper} {a b : Act} (hag : ∀ t ∈ o.looksAt ops, b.tmps.getD t undef = a.tmps.getD t undef) (x : Operand) (hx : x ∈ o.op.operands) : b.eval x = a.eval x := by
  cases x with
  | tmp t => exact hag t (operand_looks hx)
  | _ => rfl
theorem getq {a b : Array Value} {t : Nat} (hs : b.size = a.size) (h : b.getD t undef = a.getD t undef) : b[t]? = a[t]? := by
  rw [Array.getD_eq_getD_getElem?, Array.getD_eq_getD_getElem?] at h
  by_cases e : t < a.size
  · have e' : t < b.size := by omega
    simp only [Array.getElem?_eq_getElem e, Array.getElem?_eq_getElem e', Option.getD_some] at h ⊢
    rw [h]
  · have e' : ¬ t < b.size := by omega
    simp [Array.getElem?_eq_none (Nat.le_of_not_lt e), Array.getElem?_eq_none (Nat.le_of_not_lt e')]
theorem wanted_off {ops : Array Oper} {o : Oper} {a b : Act} (hag : ∀ t ∈ o.looksAt ops, b.tmps.getD t undef = a.tmps.getD t undef) (hsz : b.tmps.size = a.tmps.size) : Region.wanted o (yielded ops b.tmps) = Region.wanted o (yielded ops a.tmps) := by
  unfold Region.wanted
  cases hg : o.guard with
  | none => rfl
  | some p =>
    obtain ⟨j, w⟩ := p
    have : yielded ops b.tmps j = yielded ops a.tmps j := by
      unfold yielded
      cases ht : (ops[j]?).bind (·.dst) with
      | none => rfl
      | some t => simp only [Option.bind_some, getq hsz (hag t (guard_looks hg ht))]
    simp only [this]
theorem getD_put_out {a : Act} {t : Nat} {v : Value} (h : ¬ t < a.tmps.size) : (a.put (some t) v).tmps.getD t undef = undef := by
  have : (a.put (some t) v).tmps.size ≤ t := by rw [put_size]; omega
  rw [Array.getD_eq_getD_getElem?, Array.getElem?_eq_none this]; rfl
theorem wpOp_off {ops : Array Oper} {o : Oper} {i : Nat} (ho : ops[i]? = some o) (hsel : ∀ cs b, o.op ≠ .select cs b) {a b : Act} (hag : ∀ t ∈ o.looksAt ops, b.tmps.getD t undef = a.tmps.getD t undef) (hsz : b.tmps.size = a.tmps.size)
    {next next' : Act → World → Prop} (hn : ∀ v w', next (b.put o.dst v) w' → next' (a.put o.dst v) w') (hd : ∀ d v w', ¬ next (({ b with defers := d :: b.defers } : Act).put o.dst v) w') {w : World} {Q : Exit → Act → World → Prop}
    (h : wpOp P ops (fun _ _ _ => False) i next b w) : wpOp P ops Q i next' a w := by
  unfold wpOp at *
  simp only [ho] at *
  rw [wanted_off hag hsz] at h
  split
  · rename_i hw
    simp only [hw, if_true] at h
    rcases h with h | ⟨_, _, _, h⟩
    case inr => exact h.elim
    refine .inl ?_
    unfold Oper.wp at *
    rw [execOp_congr o hsel (fun x hx => eval_off hag x hx)] at h
    generalize (execOp a.eval o).run P w = r at *
    cases r with
    | ok n w' =>
      cases n <;> simp only [Oper.upon] at h ⊢
      case value u => exact hn u w' h
      case skip => exact hn undef w' h
      case defer d => exact absurd h (hd d undef w')
      case enter f args =>
        refine Calls.mono h fun e w'' he => ?_
        cases e with
        | returned u => exact hn u w'' he
        | panicked c => exact he.elim
        | outgrown => obtain ⟨_, _, h⟩ := he; exact h.elim
      case row row args => exact Rows.mono h fun u w'' he => hn u w'' he
    | halt x w' => cases x <;> simp only [Oper.upon] at h ⊢
  · rename_i hw
    simp only [hw] at h
    exact hn undef w h

theorem WR1_sound {K : List Nat} {ops : Array Oper} {o : Oper} {i : Nat} (ho : ops[i]? = some o) {s : St} {k : St → Prop} (h : WR P K ops [o] s k) {g : G} {a : Act} {w : World} (hk : KIn K s.hp) (hs : Sim g s a w) {Q : Exit → Act → World → Prop} :
    wpOp P ops Q i (fun a' w' => ∃ s' g', Sim g' s' a' w' ∧ To K g s.hp w g' s'.hp w' ∧ k s') a w := by
  unfold wpOp
  simp only [ho]
  have hstep : stepK P K o s (fun s' => WR P K ops [] s' k) → o.wp P a w (fun a' w' => ∃ s' g', Sim g' s' a' w' ∧ To K g s.hp w g' s'.hp w' ∧ k s') Q := fun h1 =>
    stepK_sound h1 hk hs fun s' g' a' w' q1 q2 q3 => ⟨s', g', q1, q2, q3⟩
  simp only [WR] at h hstep
  split at h
  · rename_i hg
    have : Region.wanted o (yielded ops a.tmps) = true := by unfold Region.wanted; rw [hg]
    rw [if_pos this]
    exact .inl (hstep h)
  · rename_i j want hg
    split at h
    · rename_i b hb
      have hy := gd_spec hs hb
      have hwant : Region.wanted o (yielded ops a.tmps) = b := by
        unfold Region.wanted
        rw [hg]
        exact hy
      rw [hwant]
      cases b with
      | true =>
        simp only [if_true]
        exact .inl (hstep (h.1 rfl))
      | false =>
        simp only [Bool.false_eq_true, if_false]
        have h2 := h.2 rfl
        split at h2
        · rename_i s' hs'
          obtain ⟨q1, q2⟩ := setv_sound (v := undef) hs (und_rel _ _) hs'
          exact ⟨s', g, q1, by rw [q2]; exact To.refl hk, h2⟩
        · exact h2.elim
    · exact h.elim

/-- An operation that does something, others being done or not. -/
theorem J.chain {K D : List Nat} {m : Bool} {ops : Array Oper} {g : G} {s : St} {ps : List Rec} {a : Act} {w : World} (h : J P ops g s ps a w) (hk : KIn K s.hp) {o : Oper} {i : Nat} (ho : ops[i]? = some o) (hsel : ∀ cs b, o.op ≠ .select cs b) {k : St → Prop}
    (hW : WR P K ops [o] s fun s' => (∀ t ∈ D, s'.get t = s.get t) ∧ (m = true → s'.hp = s.hp) ∧ k s') (hlt : ∀ (i : Nat) (o : Oper), ops[i]? = some o → ∀ p ∈ pre o, p < i) (hu : ∀ r ∈ ps, ∀ r' ∈ ps, r'.i = r.i → r' = r)
    (hlate : ∀ r ∈ ps, (r.s.hp = [] ∨ m = true) ∧ ∀ t ∈ r.o.looksAt ops, ∀ n ∈ (r.s.get t).refs, n ∈ K) (hD : ∀ r ∈ ps, ∀ d, r.o.dst = some d → d ∈ D)
    (hoff : ∀ r ∈ ps, ∀ d, r.o.dst = some d → d ∉ o.looksAt ops) (hdst : ∀ r ∈ ps, ∀ t ∈ r.o.looksAt ops, o.dst ≠ some t) {Q : Exit → Act → World → Prop} :
    wpOp P ops Q i (fun a' w' => ∃ s' g', J P ops g' s' ps a' w' ∧ To K g s.hp w g' s'.hp w' ∧ k s') a w := by
  obtain ⟨b, hb, hsz, hag⟩ := h.fill hlt ps.length (Nat.le_refl _) hu
  refine wpOp_off ho hsel (a := a) (b := b) (fun t ht => hag t fun r hr e => hoff r hr t e ht) hsz ?_ ?_ (WR1_sound ho hW hk hb)
  · rintro v w' ⟨s', g', h1, h2, h3, hm, h4⟩
    have hn : s'.n = s.n := by rw [← h1.n, put_size, hsz, h.n]
    refine ⟨s', g', ⟨?_, ?_, h1.hp, fun t ht => ?_, h.op, fun r hr => (h.sn r hr).trans hn.symm, fun r hr d hd => ?_, h.re, fun r hr => (hlate r hr).1.elim .inl fun e => (h.sh r hr).imp id fun q => q.trans (hm e).symm, h.no, fun r hr t ht => ?_, h.ds⟩, h2, h4⟩
    · rw [put_size, h.n, hn]
    · rw [put_defers]; exact h.df
    · have := h1.tm t
      by_cases e : o.dst = some t
      · rw [e] at this ⊢
        by_cases e' : t < a.tmps.size
        · rw [getD_put_same (a := b) (by rw [hsz]; exact e')] at this
          rw [getD_put_same e']; exact this
        · rw [getD_put_out (a := b) (by rw [hsz]; exact e')] at this
          rw [getD_put_out e']; exact this
      · rw [getD_put e, hag t ht] at this
        rw [getD_put e]; exact this
    · obtain ⟨q1, q2⟩ := h.dv r hr d hd
      exact ⟨by rw [hn]; exact q1, by rw [h3 d (hD r hr d hd), q2]⟩
    · rcases h.lo r hr t ht with q | ⟨q1, q2⟩
      · exact .inl q
      · refine .inr ⟨q1, ?_⟩
        rw [getD_put (hdst r hr t ht)]
        exact Rel.mono (g' := g') h2.ev.S1 (fun b o hbo => h2.ev.sealed h.hp b o hbo) q2 fun n hn => h2.ks n ((hlate r hr).2 t ht n hn)
  · rintro d v w' ⟨s', g', h1, _⟩
    have := h1.df
    rw [put_defers] at this
    cases this

theorem St.get_keep {s : St} {hp : Hp} {l : List Nat} {t : Nat} : ({ s with tm := keepL s.tm l, hp := hp } : St).get t = if memb l t = true then s.get t else .any := by
  unfold St.get
  simp only [lk_keepL]
  cases memb l t <;> simp
theorem setv_get {s s' : St} {d : Option Tmp} {v : AV} (h : s.setv d v = some s') : s'.hp = s.hp ∧ s'.n = s.n ∧ (∀ t, d ≠ some t → s'.get t = s.get t) ∧ ∀ t, d = some t → t < s.n ∧ s'.get t = v := by
  unfold St.setv at h
  split at h
  · rename_i d
    cases hd : ltb d s.n
    · rw [hd] at h; cases h
    · rw [hd] at h
      simp only [cond_true, Option.some.injEq] at h; subst h
      refine ⟨rfl, rfl, fun t ht => ?_, fun t ht => ?_⟩
      · unfold St.get
        simp only [lk_lset]
        rw [if_neg (fun e : d = t => ht (by rw [e]))]
      · simp only [Option.some.injEq] at ht
        subst ht
        refine ⟨Nat.le_of_ble_eq_true hd, ?_⟩
        unfold St.get
        simp [lk_lset]
  · simp only [Option.some.injEq] at h; subst h
    exact ⟨rfl, rfl, fun _ _ => rfl, fun _ h => by cases h⟩
def snap (s : St) (hp : Hp) (ls : List Nat) : St := { s with tm := keepL s.tm ls, hp := hp }
/-- One more that may be done. -/
theorem J.pure {ops : Array Oper} {g : G} {s s' : St} {ps : List Rec} {a : Act} {w : World} (h : J P ops g s ps a w) {o : Oper} {i : Nat} (ho : ops[i]? = some o) {hp : Hp} (hhp : hp = [] ∨ hp = s.hp) {v : AV} (hr : Redo P ops o { s with hp := hp } v) (hs : s.setv o.dst v = some s')
    (hnew : ∀ r ∈ ps, r.i ≠ i) (g2 : ∀ r ∈ ps, o.dst ≠ none → o.dst ≠ r.o.dst) (g2' : ∀ r ∈ ps, r.o.dst ≠ none → r.o.dst ≠ o.dst) (g3 : ∀ r ∈ ps, ∀ t ∈ r.o.looksAt ops, o.dst = some t → r.i ∈ pre o) (g3' : ∀ r ∈ ps, ∀ t ∈ o.looksAt ops, r.o.dst = some t → r.i ∈ pre o) (gs : ∀ t ∈ o.looksAt ops, o.dst ≠ some t) :
    J P ops g s' (⟨i, o, snap s hp (o.looksAt ops), v⟩ :: ps) a w := by
  obtain ⟨e1, e2, e3, e4⟩ := setv_get hs
  have hsg : ∀ t ∈ o.looksAt ops, (snap s hp (o.looksAt ops)).get t = s.get t := fun t ht => by
    rw [snap, St.get_keep, if_pos ((memb_iff _ _).2 ht)]
  have all : ∀ {p : Rec → Prop}, p ⟨i, o, snap s hp (o.looksAt ops), v⟩ → (∀ r ∈ ps, p r) → ∀ r ∈ (⟨i, o, snap s hp (o.looksAt ops), v⟩ :: ps : List Rec), p r := fun h1 h2 r hr => by
    rcases List.mem_cons.1 hr with rfl | hr
    · exact h1
    · exact h2 r hr
  refine ⟨h.n.trans e2.symm, h.df, by rw [e1]; exact h.hp, fun t ht => ?_, all ho h.op, all e2.symm (fun r hr => (h.sn r hr).trans e2.symm), all (fun d hd => ⟨by rw [e2]; exact (e4 d hd).1, (e4 d hd).2⟩) (fun r hr d hd => ?_), all ?_ h.re, all ?_ (fun r hr => by rw [e1]; exact h.sh r hr), all (fun t ht => ?_) h.no, all (fun t ht => ?_) (fun r hr t ht => ?_), ?_⟩
  · rw [e3 t (ht _ List.mem_cons_self)]
    exact h.tm t fun r hr => ht r (List.mem_cons_of_mem _ hr)
  · obtain ⟨q1, q2⟩ := h.dv r hr d hd
    refine ⟨by rw [e2]; exact q1, ?_⟩
    rw [e3 d (fun e => g2' r hr (by rw [hd]; simp) (by rw [hd, e]))]
    exact q2
  · exact Redo.congr (s := { s with hp := hp }) rfl (fun t ht => hsg t ht) hr
  · rw [e1]; exact hhp
  · show (snap s hp (o.looksAt ops)).get t = .any
    rw [snap, St.get_keep, if_neg fun e => ht ((memb_iff _ _).1 e)]
  · by_cases e : ∃ r ∈ ps, r.o.dst = some t
    · obtain ⟨r, hr, hd⟩ := e
      refine .inl ⟨r, List.mem_cons_of_mem _ hr, hd, g3' r hr t ht hd, ?_⟩
      show r.v = (snap s hp (o.looksAt ops)).get t
      rw [hsg t ht]
      exact (h.dv r hr t hd).2.symm
    · refine .inr ⟨all (fun hd => absurd hd (gs t ht)) (fun r hr hd => absurd ⟨r, hr, hd⟩ e), ?_⟩
      show Rel g w _ ((snap s hp (o.looksAt ops)).get t)
      rw [hsg t ht]
      exact h.tm t fun r hr hd => e ⟨r, hr, hd⟩
  · rcases h.lo r hr t ht with ⟨r', q1, q2⟩ | ⟨q1, q2⟩
    · exact .inl ⟨r', List.mem_cons_of_mem _ q1, q2⟩
    · exact .inr ⟨all (fun hd => g3 r hr t ht hd) q1, q2⟩
  · intro x hx y hy hne hd
    rcases List.mem_cons.1 hx with rfl | hx
    · rcases List.mem_cons.1 hy with rfl | hy
      · exact absurd rfl hne
      · exact g2 y hy hd
    · rcases List.mem_cons.1 hy with rfl | hy
      · exact g2' x hx hd
      · exact h.ds x hx y hy hne hd
end Go.Wl

