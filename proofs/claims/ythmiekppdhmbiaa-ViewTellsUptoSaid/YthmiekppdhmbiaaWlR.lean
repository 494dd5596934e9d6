/- Values and memory told without addresses: two ways that meet. -/
import Derived.Test.YthmiekppdhmbiaaWlQ
set_option linter.unusedVariables false
set_option linter.unusedSimpArgs false
namespace Go.Wl
variable {P : Program}

def runP (P : Program) : List Sop → St → Option St
  | [], s => some s
  | ⟨d, op, none⟩ :: r, s => ob (aopD P d op s s) (runP P r)
  | _ :: _, _ => none
def dstsOf : List Sop → List Nat
  | [] => []
  | ⟨some d, _, _⟩ :: r => d :: dstsOf r
  | _ :: r => dstsOf r
def phiD (b : Bool) (x y : D) : D := match x, y with
  | .int k n, .int k' m => bif decide (k = k') then .int k (if b = true then n else m) else if b = true then .int k n else .int k' m
  | .bool p, .bool q => .bool (if b = true then p else q)
  | .str s, .str t => .str (if b = true then s else t)
  | .list s, .list t => .list (if b = true then s else t)
  | x, y => if b = true then x else y
theorem phiD_eq (b : Bool) (x y : D) : phiD b x y = bif b then x else y := by
  unfold phiD
  split
  · rename_i k n k' m
    cases h : decide (k = k')
    · cases b <;> rfl
    · have := of_decide_eq_true h
      subst this
      cases b <;> rfl
  all_goals cases b <;> rfl
def phiAV (b : Bool) (x y : AV) : AV := match x, y with
  | .d x, .d y => .d (phiD b x y)
  | _, _ => .any
def phiS (b : Bool) (s1 s2 : St) : List Nat → List (Nat × AV) → List (Nat × AV)
  | [], tm => tm
  | t :: r, tm => phiS b s1 s2 r (lset tm t (phiAV b (s1.get t) (s2.get t)))
theorem phiS_spec {b : Bool} {s1 s2 : St} : ∀ {W : List Nat} {tm : List (Nat × AV)} {i : Nat}, lk (phiS b s1 s2 W tm) i = lk tm i ∨ (i ∈ W ∧ lk (phiS b s1 s2 W tm) i = some (phiAV b (s1.get i) (s2.get i)))
  | [], tm, i => .inl rfl
  | t :: r, tm, i => by
    simp only [phiS]
    rcases phiS_spec (b := b) (s1 := s1) (s2 := s2) (W := r) (tm := lset tm t (phiAV b (s1.get t) (s2.get t))) (i := i) with h | ⟨h1, h2⟩
    · rw [h, lk_lset]
      by_cases e : t = i
      · subst e
        exact .inr ⟨List.mem_cons_self, if_pos rfl⟩
      · rw [if_neg e]; exact .inl rfl
    · exact .inr ⟨List.mem_cons_of_mem _ h1, h2⟩
theorem phiS_mem {b : Bool} {s1 s2 : St} : ∀ {W : List Nat} {tm : List (Nat × AV)} {i : Nat}, i ∈ W → lk (phiS b s1 s2 W tm) i = some (phiAV b (s1.get i) (s2.get i))
  | t :: r, tm, i, h => by
    simp only [phiS]
    by_cases hr : i ∈ r
    · exact phiS_mem hr
    · rcases List.mem_cons.1 h with e | h
      · subst e
        rcases phiS_spec (b := b) (s1 := s1) (s2 := s2) (W := r) (tm := lset tm i (phiAV b (s1.get i) (s2.get i))) (i := i) with h | ⟨h1, h2⟩
        · rw [h, lk_lset, if_pos rfl]
        · exact h2
      · exact absurd h hr

/-- A region that only reckons. -/
theorem runP_keep : ∀ {l : List Sop} {s s' : St}, runP P l s = some s' → s'.hp = s.hp ∧ s'.n = s.n ∧ ∀ i, i ∉ dstsOf l → s'.get i = s.get i
  | [], s, s', h => by simp only [runP, Option.some.injEq] at h; subst h; exact ⟨rfl, rfl, fun _ _ => rfl⟩
  | ⟨d, op, none⟩ :: r, s, s', h => by
    simp only [runP, aopD] at h
    cases ha : aval P op s with
    | none => rw [ha] at h; cases h
    | some v =>
      rw [ha] at h
      simp only [ob] at h
      cases hb : s.setv d v with
      | none => rw [hb] at h; cases h
      | some s1 =>
        rw [hb] at h
        obtain ⟨q1, q2, q3⟩ := runP_keep h
        obtain ⟨e1, e2, e3, e4⟩ := setv_get hb
        refine ⟨q1.trans e1, q2.trans e2, fun i hi => ?_⟩
        cases d with
        | none => exact (q3 i hi).trans (e3 i (by simp))
        | some d =>
          simp only [dstsOf, List.mem_cons, not_or] at hi
          exact (q3 i hi.2).trans (e3 i (by simp only [ne_eq, Option.some.injEq]; exact fun e => hi.1 e.symm))
  | ⟨d, op, some g⟩ :: r, s, s', h => by cases h
theorem runP_wp {K : List Nat} {ops : Array Oper} : ∀ (l : List Oper) (n : Nat), (∀ j, j < l.length → ops[n + j]? = l[j]?) → ∀ {sl : List Sop} {s s' : St}, copS ops l = some sl → runP P sl s = some s' → ∀ {g : G} {a : Act} {w : World}, Sim g s a w →
    ∀ {Q : Exit → Act → World → Prop}, (∀ a', Sim g s' a' w → Q .normal a' w) → wpOps P ops Q ((List.range l.length).map (n + ·)) a w
  | [], n, _, sl, s, s', hc, hr, g, a, w, hs, Q, hq => by
    simp only [copS, Option.some.injEq] at hc; subst hc
    simp only [runP, Option.some.injEq] at hr; subst hr
    exact hq a hs
  | o :: r, n, hops, sl, s, s', hc, hr, g, a, w, hs, Q, hq => by
    have ho : ops[n]? = some o := by simpa using hops 0 (by simp)
    have hrest : ∀ j, j < r.length → ops[n + 1 + j]? = r[j]? := fun j hj => by
      have := hops (j + 1) (by simp; omega)
      rw [show n + 1 + j = n + (j + 1) by omega]
      simpa using this
    have hlist : (List.range (o :: r).length).map (n + ·) = n :: (List.range r.length).map (n + 1 + ·) := by
      rw [List.length_cons, List.range_succ_eq_map, List.map_cons, List.map_map]
      congr 1
      apply List.map_congr_left
      intro x _
      simp; omega
    rw [hlist]
    simp only [wpOps, ho]
    simp only [copS] at hc
    split at hc
    · rename_i l h1 h2
      simp only [Option.some.injEq] at hc; subst hc
      simp only [runP, aopD] at hr
      cases ha : aval P o.op s with
      | none => rw [ha] at hr; cases hr
      | some v =>
        rw [ha] at hr
        simp only [ob] at hr
        cases hb : s.setv o.dst v with
        | none => rw [hb] at hr; cases hr
        | some s1 =>
          rw [hb] at hr
          obtain ⟨u, q1, q2⟩ := aval_sound hs ha
          obtain ⟨q3, _⟩ := setv_sound hs q2 hb
          have : Region.wanted o (yielded ops a.tmps) = true := by unfold Region.wanted; rw [h1]
          rw [if_pos this]
          refine .inl ?_
          simp only [Oper.wp, q1, Oper.upon]
          exact runP_wp (K := K) r (n + 1) hrest h2 hr q3 hq
    · rename_i j w' l h1 h2
      split at hc
      · simp only [Option.some.injEq] at hc; subst hc
        cases hr
      · cases hc
    · cases hc
theorem sim_le {g : G} {s s3 : St} {a : Act} {w : World} (hs : Sim g s a w) (hn : s3.n = s.n) (ht : ∀ i, Le (s.get i) (s3.get i)) (hh : s3.hp = s.hp) : Sim g s3 a w :=
  ⟨hs.n.trans hn.symm, hs.df, fun i => ht i g w _ (hs.tm i), by rw [hh]; exact hs.hp⟩
theorem WC_runP {K : List Nat} {l : List Sop} {s s' s3 : St} {Q : Exit → St → Prop} (h : runP P l s = some s') (hn : s3.n = s'.n) (ht : ∀ i, Le (s'.get i) (s3.get i)) (hh : s3.hp = s'.hp) (hq : Q .normal s3) : WC P K (.region l) s Q := fun c hc => by
  cases c with
  | region a ops draw =>
    rcases comp_region (a := a) (b := 0) (ops := ops) (draw := draw) with ⟨l', e, e1, e2⟩ | ⟨l', e, _⟩ | e <;> rw [e] at hc
    · simp only [Cc.region.injEq] at hc; subst hc; subst e1
      intro g a w hk hs
      refine wp_region ?_
      have := runP_wp (P := P) (K := K) ops.toList 0 (fun j hj => by simp) e2 h hs (Q := fun e a' w' => ∃ s'' g', Sim g' s'' a' w' ∧ To K g s.hp w g' s''.hp w' ∧ Q e s'') fun a' hs' => ⟨s3, g, sim_le hs' hn ht hh, by rw [hh, (runP_keep h).1]; exact To.refl hk, hq⟩
      simpa using this
    · cases hc
    · cases hc
  | _ => simp [compC] at hc
theorem WC_skipL {K : List Nat} {s s3 : St} {Q : Exit → St → Prop} (hn : s3.n = s.n) (ht : ∀ i, Le (s.get i) (s3.get i)) (hh : s3.hp = s.hp) (h : Q .normal s3) : WC P K .skip s Q := fun c hc => by
  cases c with
  | skip => exact fun g a w hk hs => wp_skip ⟨s3, g, sim_le hs hn ht hh, by rw [hh]; exact To.refl hk, h⟩
  | region a ops draw => rcases comp_region (a := a) (b := 0) (ops := ops) (draw := draw) with ⟨l, e, _⟩ | ⟨l, e, _⟩ | e <;> rw [e] at hc <;> cases hc
  | _ => simp [compC] at hc

theorem WC_le {K : List Nat} {s s' : St} {c : Cc} {Q : Exit → St → Prop} (hn : s'.n = s.n) (ht : ∀ i, Le (s.get i) (s'.get i)) (hh : s'.hp = s.hp) (h : WC P K c s' Q) : WC P K c s Q := fun cc hc g a w hk hs =>
  wp_mono (h cc hc g a w (by rw [hh]; exact hk) ⟨hs.n.trans hn.symm, hs.df, fun i => ht i g w _ (hs.tm i), by rw [hh]; exact hs.hp⟩) fun e a' w' ⟨s2, g', q1, q2, q3⟩ => ⟨s2, g', q1, by rw [hh] at q2; exact q2, q3⟩
theorem phi_le {b : Bool} {s s1 s2 : St} {l1 l2 : List Sop} (h1 : runP P l1 s = some s1) (h2 : runP P l2 s = some s2) (i : Nat) :
    Le ((bif b then s1 else s2).get i) (({ s with tm := phiS b s1 s2 (app (dstsOf l1) (dstsOf l2)) s.tm } : St).get i) := by
  have happ : ∀ (l m : List Nat) (x : Nat), x ∈ app l m ↔ x ∈ l ∨ x ∈ m := fun l m x => by
    induction l with
    | nil => simp [app]
    | cons y r ih => simp [app, ih, or_assoc]
  by_cases hi : i ∈ app (dstsOf l1) (dstsOf l2)
  · have : ({ s with tm := phiS b s1 s2 (app (dstsOf l1) (dstsOf l2)) s.tm } : St).get i = phiAV b (s1.get i) (s2.get i) := by
      unfold St.get
      rw [show lk ({ s with tm := phiS b s1 s2 (app (dstsOf l1) (dstsOf l2)) s.tm } : St).tm i = _ from phiS_mem hi]
      rfl
    rw [this]
    unfold phiAV
    split
    · rename_i x y hx hy
      rw [phiD_eq]
      cases b
      · simp only [cond_false, hy]; exact Le.refl _
      · simp only [cond_true, hx]; exact Le.refl _
    · exact Le.any _
  · have hni : i ∉ dstsOf l1 ∧ i ∉ dstsOf l2 := by rw [happ] at hi; exact not_or.1 hi
    have : ({ s with tm := phiS b s1 s2 (app (dstsOf l1) (dstsOf l2)) s.tm } : St).get i = s.get i := by
      unfold St.get
      rcases phiS_spec (b := b) (s1 := s1) (s2 := s2) (W := app (dstsOf l1) (dstsOf l2)) (tm := s.tm) (i := i) with h | ⟨h, _⟩
      · rw [h]
      · exact absurd h hi
    rw [this]
    cases b
    · rw [cond_false, (runP_keep h2).2.2 i hni.2]; exact Le.refl _
    · rw [cond_true, (runP_keep h1).2.2 i hni.1]; exact Le.refl _
/-- Two ways that only reckon, and meet. -/
theorem RUN_phi2 {K : List Nat} {s s1 s2 s3 : St} {Q : Exit → St → Prop} {o : Operand} {l1 l2 : List Sop} {b : Bool} (hb : ∀ q, s.ev o = q → q = .d (.bool b)) (h1 : ∀ q, runP P l1 s = q → q = some s1) (h2 : ∀ q, runP P l2 s = q → q = some s2)
    (h3 : ∀ q, ({ s with tm := phiS b s1 s2 (app (dstsOf l1) (dstsOf l2)) s.tm } : St) = q → q = s3) (hk : Q .normal s3) : WC P K (.cond o (.region l1) (.region l2)) s Q := by
  have h1 := h1 _ rfl
  have h2 := h2 _ rfl
  have h3 := h3 _ rfl
  refine WC_cv (hb _ rfl) (fun e => ?_) fun e => ?_
  · subst e
    refine WC_runP h1 (by rw [← h3]; exact (runP_keep h1).2.1.symm) (fun i => ?_) (by rw [← h3]; exact (runP_keep h1).1.symm) hk
    rw [← h3]; exact phi_le (b := true) h1 h2 i
  · subst e
    refine WC_runP h2 (by rw [← h3]; exact (runP_keep h2).2.1.symm) (fun i => ?_) (by rw [← h3]; exact (runP_keep h2).1.symm) hk
    rw [← h3]; exact phi_le (b := false) h1 h2 i
theorem RUN_phi {K : List Nat} {s s1 s3 : St} {Q : Exit → St → Prop} {o : Operand} {l1 : List Sop} {b : Bool} (hb : ∀ q, s.ev o = q → q = .d (.bool b)) (h1 : ∀ q, runP P l1 s = q → q = some s1)
    (h3 : ∀ q, ({ s with tm := phiS b s1 s (app (dstsOf l1) []) s.tm } : St) = q → q = s3) (hk : Q .normal s3) : WC P K (.cond o (.region l1) .skip) s Q := by
  have h1 := h1 _ rfl
  have h2 : runP P [] s = some s := rfl
  have h3 := h3 _ rfl
  refine WC_cv (hb _ rfl) (fun e => ?_) fun e => ?_
  · subst e
    refine WC_runP h1 (by rw [← h3]; exact (runP_keep h1).2.1.symm) (fun i => ?_) (by rw [← h3]; exact (runP_keep h1).1.symm) hk
    rw [← h3]; exact phi_le (b := true) (l2 := []) h1 h2 i
  · subst e
    refine WC_skipL (by rw [← h3]) (fun i => ?_) (by rw [← h3]) hk
    rw [← h3]; exact phi_le (b := false) (l2 := []) h1 h2 i
theorem RUN_ct {K : List Nat} {s : St} {Q : Exit → St → Prop} {o : Operand} {x y : Cc} (hb : ∀ q, s.ev o = q → q = .d (.bool true)) (h1 : WC P K x s Q) : WC P K (.cond o x y) s Q := WC_cv (hb _ rfl) (fun _ => h1) fun e => by cases e
theorem RUN_cf {K : List Nat} {s : St} {Q : Exit → St → Prop} {o : Operand} {x y : Cc} (hb : ∀ q, s.ev o = q → q = .d (.bool false)) (h1 : WC P K y s Q) : WC P K (.cond o x y) s Q := WC_cv (hb _ rfl) (fun e => by cases e) fun _ => h1
end Go.Wl

