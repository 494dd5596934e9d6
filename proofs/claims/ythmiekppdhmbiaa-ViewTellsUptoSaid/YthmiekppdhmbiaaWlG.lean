/- Values and memory told without addresses: code, calls, contracts. -/
import Derived.Test.YthmiekppdhmbiaaWlF
import Derived.Calls
set_option linter.unusedVariables false
set_option linter.unusedSimpArgs false
namespace Go.Wl
variable {P : Program}

def KIn (K : List Nat) (hp : Hp) : Prop := ∀ n ∈ K, ∃ ob, lk hp n = some ob ∧ ∀ sz, ob ≠ .tail sz
def KSame (K : List Nat) (g g' : G) : Prop := ∀ n ∈ K, g'.ρ n = g.ρ n ∧ g'.τ n = g.τ n
/-- One comes from here to there. -/
structure To (K : List Nat) (g : G) (hp : Hp) (w : World) (g' : G) (hp' : Hp) (w' : World) : Prop where
  ev : Ev (Own g hp) (Own g' hp') g g' w w'
  ks : KSame K g g'
  ki : KIn K hp'
theorem To.refl {K : List Nat} {g : G} {hp : Hp} {w : World} (h : KIn K hp) : To K g hp w g hp w := ⟨Ev.refl _ _ _, fun _ _ => ⟨rfl, rfl⟩, h⟩
theorem To.trans {K : List Nat} {g g' g'' : G} {hp hp' hp'' : Hp} {w w' w'' : World} (h : To K g hp w g' hp' w') (k : To K g' hp' w' g'' hp'' w'') : To K g hp w g'' hp'' w'' :=
  ⟨h.ev.trans k.ev, fun n hn => ⟨(k.ks n hn).1.trans (h.ks n hn).1, (k.ks n hn).2.trans (h.ks n hn).2⟩, k.ki⟩
theorem To.ofNames {K : List Nat} {g g' : G} {hp hp' : Hp} {w w' : World} (hk : KIn K hp) (he : Ev (Own g hp) (Own g' hp') g g' w w') (hn : Names g hp g' hp') : To K g hp w g' hp' w' :=
  ⟨he, fun n h => by obtain ⟨ob, h1, h2⟩ := hk n h; exact (hn n ob h1 h2).1, fun n h => by obtain ⟨ob, h1, h2⟩ := hk n h; exact (hn n ob h1 h2).2⟩

/-- What code does: Q of how it ends. -/
def W (P : Program) (K : List Nat) (c : Code) (s : St) (Q : Exit → St → Prop) : Prop :=
  ∀ g a w, KIn K s.hp → Sim g s a w → c.wp P (fun e a' w' => ∃ s' g', Sim g' s' a' w' ∧ To K g s.hp w g' s'.hp w' ∧ Q e s') a w

section
variable {K : List Nat} {s : St} {Q : Exit → St → Prop}
theorem W_mono {c : Code} {Q' : Exit → St → Prop} (h : W P K c s Q) (hq : ∀ e s', Q e s' → Q' e s') : W P K c s Q' := fun g a w hk hs =>
  wp_mono (h g a w hk hs) fun e a' w' ⟨s', g', h1, h2, h3⟩ => ⟨s', g', h1, h2, hq e s' h3⟩
theorem W_skip (h : Q .normal s) : W P K .skip s Q := fun g a w hk hs => wp_skip ⟨s, g, hs, To.refl hk, h⟩
theorem W_exit {id : Nat} (h : Q (.exit id) s) : W P K (.exit id) s Q := fun g a w hk hs => wp_exit ⟨s, g, hs, To.refl hk, h⟩
theorem W_ret (h : Q .ret s) : W P K .ret s Q := fun g a w hk hs => wp_ret ⟨s, g, hs, To.refl hk, h⟩
/-- Behind a piece of code. -/
def thenQ (c : St → Prop) (Q : Exit → St → Prop) : Exit → St → Prop
  | .normal, s => c s
  | e, s => Q e s
theorem W_seq {c d : Code} (h : W P K c s (thenQ (fun s' => W P K d s' Q) Q)) : W P K (.seq c d) s Q := fun g a w hk hs => by
  refine wp_seq (wp_mono (h g a w hk hs) ?_)
  rintro e a' w' ⟨s', g', h1, h2, h3⟩
  cases e with
  | normal => exact wp_mono (h3 g' a' w' h2.ki h1) fun e a'' w'' ⟨s'', g'', h4, h5, h6⟩ => ⟨s'', g'', h4, h2.trans h5, h6⟩
  | _ => exact ⟨s', g', h1, h2, h3⟩
theorem W_cond {c : Operand} {x y : Code} {t : Bool} (hc : s.ev c = .d (.bool t)) (h1 : t = true → W P K x s Q) (h2 : t = false → W P K y s Q) : W P K (.cond c x y) s Q := fun g a w hk hs => by
  have hr := ev_rel hs c
  rw [hc] at hr
  have he : a.eval c = .bool t := by
    generalize a.eval c = v at hr
    cases hr with
    | d hr => cases hr; rfl
  exact wp_cond_split he (fun h => h1 h g a w hk hs) (fun h => h2 h g a w hk hs)
def blockQ (id : Nat) (Q : Exit → St → Prop) : Exit → St → Prop
  | .exit id', s => if id' = id then Q .normal s else Q (.exit id') s
  | e, s => Q e s
theorem W_block {id : Nat} {c : Code} (h : W P K c s (blockQ id Q)) : W P K (.block id c) s Q := fun g a w hk hs => by
  refine wp_block (wp_mono (h g a w hk hs) ?_)
  rintro e a' w' ⟨s', g', h1, h2, h3⟩
  cases e with
  | exit id' =>
    simp only [Exit.inBlock, blockQ] at h3 ⊢
    split
    · rename_i e; rw [if_pos e] at h3; exact ⟨s', g', h1, h2, h3⟩
    · rename_i e; rw [if_neg e] at h3; exact ⟨s', g', h1, h2, h3⟩
  | _ => exact ⟨s', g', h1, h2, h3⟩
theorem least (p : Nat → Prop) (h : ∃ n, p n) : ∃ n, p n ∧ ∀ m, p m → n ≤ m := by
  obtain ⟨n, hn⟩ := h
  induction n using Nat.strongRecOn with
  | _ n ih =>
    by_cases hm : ∃ m, m < n ∧ p m
    · obtain ⟨m, h1, h2⟩ := hm; exact ih m h1 h2
    · exact ⟨n, hn, fun m hp => Nat.le_of_not_lt fun hlt => hm ⟨m, hlt, hp⟩⟩
open Classical in
/-- A loop: I n: what holds at its head, with n rounds to come at most. -/
theorem W_loop {c : Code} (I : Nat → St → Prop) (n : Nat) (h0 : I n s) (step : ∀ n s, I n s → W P K c s (thenQ (fun s' => ∃ m, m < n ∧ I m s') Q)) : W P K (.loop c) s Q := fun g a w hk hs => by
  let J : Nat → Act → World → Prop := fun n a' w' => ∃ s' g', I n s' ∧ Sim g' s' a' w' ∧ To K g s.hp w g' s'.hp w'
  have hJ : ∃ n, J n a w := ⟨n, s, g, h0, hs, To.refl hk⟩
  refine wp_loop (fun a' w' => ∃ n, J n a' w') (fun a' w' => if h : ∃ n, J n a' w' then Classical.choose (least _ h) else 0) hJ ?_
  intro a1 w1 h1
  have hfind := (Classical.choose_spec (least _ h1)).1
  obtain ⟨s1, g1, hI, hs1, ht1⟩ := hfind
  refine wp_mono (step _ s1 hI g1 a1 w1 ht1.ki hs1) ?_
  rintro e a2 w2 ⟨s2, g2, hs2, ht2, hq⟩
  cases e with
  | normal =>
    obtain ⟨m, hm, hI2⟩ := hq
    have h2 : ∃ n, J n a2 w2 := ⟨m, s2, g2, hI2, hs2, ht1.trans ht2⟩
    refine ⟨h2, ?_⟩
    rw [dif_pos h2, dif_pos h1]
    exact Nat.lt_of_le_of_lt ((Classical.choose_spec (least _ h2)).2 m ⟨s2, g2, hI2, hs2, ht1.trans ht2⟩) hm
  | _ => exact ⟨s2, g2, hs2, ht1.trans ht2, hq⟩
end

/-- Less is known. -/
def keepL {α : Type} : List (Nat × α) → List Nat → List (Nat × α)
  | [], _ => []
  | (k, x) :: r, l => bif memb l k then (k, x) :: keepL r l else keepL r l
theorem lk_keepL {α : Type} (l : List (Nat × α)) (ns : List Nat) (i : Nat) : lk (keepL l ns) i = if memb ns i = true then lk l i else none := by
  induction l with
  | nil => simp [keepL, lk]
  | cons p r ih =>
    obtain ⟨k, x⟩ := p
    unfold keepL
    cases hk : memb ns k
    · simp only [cond_false, ih, lk_cons]
      by_cases e : k = i
      · subst e; rw [hk]; simp
      · simp [e]
    · simp only [cond_true, lk_cons, ih]
      by_cases e : k = i
      · subst e; rw [hk]; simp
      · simp [e]
def St.keep (s : St) (ts ns : List Nat) : St := { s with tm := keepL s.tm ts, hp := keepL s.hp ns }
theorem W_keep {K : List Nat} {c : Code} {s : St} {Q : Exit → St → Prop} (ts ns : List Nat) (hK : K.all (memb ns ·) = true) (h : W P K c (s.keep ts ns) Q) : W P K c s Q := fun g a w hk hs => by
  obtain ⟨h1, h2⟩ := hs.hp.less (hp' := keepL s.hp ns) fun n ob hn => by
    rw [lk_keepL] at hn
    split at hn
    · exact hn
    · cases hn
  have hki : KIn K (keepL s.hp ns) := fun n hn => by
    obtain ⟨ob, q1, q2⟩ := hk n hn
    exact ⟨ob, by rw [lk_keepL, if_pos (List.all_eq_true.1 hK n hn)]; exact q1, q2⟩
  have hsim : Sim g (s.keep ts ns) a w := ⟨hs.n, hs.df, fun i => by
    have := hs.tm i
    unfold St.get St.keep at *
    simp only [lk_keepL]
    cases hc : memb ts i
    · simp only [Bool.false_eq_true, if_false]; exact .any
    · simp only [if_true]; exact this, h1⟩
  have ht : To K g s.hp w g (keepL s.hp ns) w := ⟨Ev.world rfl rfl rfl rfl (fun _ _ => Iff.rfl) h2, fun _ _ => ⟨rfl, rfl⟩, hki⟩
  exact wp_mono (h g a w hki hsim) fun e a' w' ⟨s', g', q1, q2, q3⟩ => ⟨s', g', q1, ht.trans q2, q3⟩

/-- A guard: is it as it is wanted? -/
def gdv (x : AV) (w : Bool) : Option Bool := match x with
  | .d (.bool b) => some (b == w)
  | .d (.tup []) => some false
  | _ => none
def gd (ops : Array Oper) (s : St) (j : Nat) (w : Bool) : Option Bool :=
  match (ops[j]?).bind (·.dst) with
  | some t => gdv (s.get t) w
  | none => none
/-- Nothing. -/
def und : AV := .d (.tup [])
theorem und_rel (g : G) (w : World) : Rel g w undef und := .d (.tup rfl (by simp))
theorem gd_spec {g : G} {s : St} {a : Act} {w : World} (h : Sim g s a w) {ops : Array Oper} {j : Nat} {want e : Bool} (hg : gd ops s j want = some e) : (yielded ops a.tmps j == some want) = e := by
  unfold gd at hg
  split at hg
  · rename_i t ht
    have := h.tm t
    unfold yielded
    rw [ht]
    simp only [Option.bind_some]
    have hq : ∀ v, a.tmps.getD t undef = v → v ≠ undef → a.tmps[t]? = some v := fun v hv hne => by
      rw [Array.getD_eq_getD_getElem?] at hv
      cases hh : a.tmps[t]? with
      | none => rw [hh] at hv; exact absurd hv.symm hne
      | some v' => rw [hh] at hv; simp only [Option.getD_some] at hv; rw [hv]
    unfold gdv at hg
    split at hg
    · rename_i b hb
      simp only [Option.some.injEq] at hg; subst hg
      rw [hb] at this
      generalize hv : a.tmps.getD t undef = v at this
      cases this with
      | d hr =>
        cases hr
        rw [hq _ hv (by simp [undef])]
        cases b <;> cases want <;> rfl
    · rename_i hb
      simp only [Option.some.injEq] at hg; subst hg
      rw [hb] at this
      generalize hv : a.tmps.getD t undef = v at this
      cases this with
      | d hr =>
        cases hr with
        | tup hl _ =>
          cases hh : a.tmps[t]? with
          | none => cases want <;> rfl
          | some v' =>
            rw [Array.getD_eq_getD_getElem?, hh] at hv
            simp only [Option.getD_some] at hv
            subst hv
            cases want <;> rfl
    · cases hg
  · cases hg

def cbl (P : Program) (f : FuncId) : Bool := match P.funcs[f]? with
  | some fn => !(fn.name == "runtime.NumGoroutine") && fn.body.isSome
  | none => false
theorem cbl_run {f : FuncId} (h : cbl P f = true) (args : Array Value) (w : World) : (callFunc f args).run P w = .ok (.enter f args) w := by
  unfold cbl at h
  split at h
  · rename_i fn hf
    simp only [Bool.and_eq_true, Bool.not_eq_true', beq_eq_false_iff_ne, Option.isSome_iff_ne_none] at h
    simp [callFunc, hf, h.1, h.2]
  · cases h

/-- A call, told by what it does to the walk. -/
def Call (P : Program) (K : List Nat) (dst : Option Tmp) (s : St) (f : FuncId) (args : List AV) (k : St → Prop) : Prop :=
  cbl P f = true ∧ ∀ g (vals : List Value) w a (next : Act → World → Prop), vals.length = args.length → (∀ j x, args[j]? = some x → Rel g w (vals.getD j undef) x) → KIn K s.hp → Sim g s a w →
    (∀ s' g' a' w', Sim g' s' a' w' → To K g s.hp w g' s'.hp w' → k s' → next a' w') → Calls P f vals.toArray w fun e w' => ∃ v, e = .returned v ∧ next (a.put dst v) w'
def callK (P : Program) (K : List Nat) (dst : Option Tmp) (s : St) (f : AV) (args : List AV) (k : St → Prop) : Prop :=
  match f with
  | .d (.func (.func id) first caps) => Call P K dst s id (first.map .d ++ args ++ caps.map .d) k
  | .func (.func id) first caps => Call P K dst s id (first ++ args ++ caps) k
  | _ => False
/-- A list is held against nil: data does not tell. -/
def isSl : TK → Bool
  | .slice => true
  | _ => false
def nilS (P : Program) (op : BinOp) (t : TypeId) (oy : Operand) (x : AV) : Option (List D × Bool) := match x with
  | .d (.list xs) => bif isConstNil (tk P t) oy && isSl (tk P t) then (match op with
    | .eql => some (xs, true)
    | .neq => some (xs, false)
    | _ => none) else none
  | _ => none
def nilK (P : Program) (d : Option Tmp) (op : Op) (s : St) (k : St → Prop) : Prop := match op with
  | .binOp bo t x y _ => (match nilS P bo t y (s.ev x) with
    | some (xs, pos) => ∀ b : Bool, (b = true → xs = []) → match s.setv d (.d (.bool (b == pos))) with
      | some s' => k s'
      | none => False
    | none => False)
  | _ => False
theorem nilS_run {g : G} {w : World} {vx vy : Value} {x : AV} {op : BinOp} {t : TypeId} {ox oy : Operand} {xs : List D} {pos : Bool} (hx : Rel g w vx x) (hcy : ∀ v, oy = .const v → vy = v) (h : nilS P op t oy x = some (xs, pos)) :
    ∃ b : Bool, (b = true → xs = []) ∧ (do eqGuard op t ox oy vx vy; binOp op t vx vy : Sem Value).run P w = .ok (.bool (b == pos)) w := by
  unfold nilS at h
  split at h
  · rename_i ys
    cases hc : (isConstNil (tk P t) oy && isSl (tk P t))
    · rw [hc] at h; cases h
    · rw [hc] at h
      simp only [cond_true] at h
      simp only [Bool.and_eq_true] at hc
      obtain ⟨h1, h2⟩ := hc
      have hk : tk P t = .slice := by cases hq : tk P t <;> rw [hq] at h2 <;> first | rfl | cases h2
      obtain ⟨e, hu⟩ : ∃ e, P.underlying t = some (.slice e) := by have := tk_spec hk; exact this
      rw [hk] at h1
      unfold isConstNil at h1
      split at h1
      · simp_all
      · simp_all
      · simp_all
      · have hvy := hcy _ rfl
        subst hvy
        cases hx with
        | d hx =>
          cases hx with
          | @list a len cap _ sz vals hl hcap hs hw hm hr =>
            have hb : a.isNone = true → ys = [] := fun ha => by
              by_cases h0 : 0 < cap
              · obtain ⟨b, o, rfl⟩ := hs h0; cases ha
              · exact List.eq_nil_of_length_eq_zero (by omega)
            obtain ⟨r1, r2⟩ := eql_run (P := P) t (.slice a len cap) (.slice none _ _) a.isNone w rfl rfl (fun d => by cases a <;> simp [Op.equalIn, run_underlying hu])
            refine ⟨a.isNone, ?_, ?_⟩
            · split at h
              all_goals first | (simp only [Option.some.injEq, Prod.mk.injEq] at h; rw [← h.1]; exact hb) | cases h
            · split at h
              · simp only [Option.some.injEq, Prod.mk.injEq] at h
                rw [← h.2, eqGuard_at_slice]
                simpa using r1
              · simp only [Option.some.injEq, Prod.mk.injEq] at h
                rw [← h.2, eqGuard_at_slice]
                simpa using r2
              · cases h
      · cases h1
  · cases h
def stepK (P : Program) (K : List Nat) (o : Oper) (s : St) (k : St → Prop) : Prop :=
  match o.op with
  | .call { callee := .value f, args, .. } => callK P K o.dst s (s.ev f) (args.toList.map s.ev) k
  | _ => match aop P o s with
    | some s' => k s'
    | none => nilK P o.dst o.op s k
/-- The operations of a region, in order. -/
def WR (P : Program) (K : List Nat) (ops : Array Oper) : List Oper → St → (St → Prop) → Prop
  | [], s, k => k s
  | o :: r, s, k => match o.guard with
    | none => stepK P K o s fun s' => WR P K ops r s' k
    | some (j, want) => match gd ops s j want with
      | some b => (b = true → stepK P K o s fun s' => WR P K ops r s' k) ∧ (b = false → match s.setv o.dst und with
        | some s' => WR P K ops r s' k
        | none => False)
      | none => False

theorem stepK_sound {K : List Nat} {o : Oper} {s : St} {k : St → Prop} (h : stepK P K o s k) {g : G} {a : Act} {w : World} (hk : KIn K s.hp) (hs : Sim g s a w) {next : Act → World → Prop} {Q : Exit → Act → World → Prop}
    (hnext : ∀ s' g' a' w', Sim g' s' a' w' → To K g s.hp w g' s'.hp w' → k s' → next a' w') : o.wp P a w next Q := by
  have hgen : (match aop P o s with | some s' => k s' | none => nilK P o.dst o.op s k) → o.wp P a w next Q := by
    intro h
    split at h
    · rename_i s' ho
      obtain ⟨r, w', g', h1, h2, h3, h4⟩ := aop_sound hs ho
      unfold Oper.wp
      rw [h1]
      rcases h2 with ⟨v, rfl, h2⟩ | ⟨rfl, h2⟩
      · exact hnext s' g' _ w' h2 (To.ofNames hk h3 h4) h
      · exact hnext s' g' _ w' h2 (To.ofNames hk h3 h4) h
    · unfold nilK at h
      split at h
      · rename_i bo t x y yt hop
        split at h
        · rename_i xs pos hn
          obtain ⟨b, h1, h2⟩ := nilS_run (P := P) (ox := x) (ev_rel hs x) (fun v e => by rw [e]; rfl) hn (vy := a.eval y)
          have h3 := h b h1
          split at h3
          · rename_i s' hs'
            obtain ⟨q1, q2⟩ := setv_sound (v := .bool (b == pos)) hs (.d .bool) hs'
            unfold Oper.wp
            have hrun : (execOp a.eval o).run P w = .ok (.value (.bool (b == pos))) w := by
              obtain ⟨dst, op, type, ps, after, guard⟩ := o
              simp only at hop
              subst hop
              have : execOp a.eval ⟨dst, .binOp bo t x y yt, type, ps, after, guard⟩ = (do pure (.value (← (do eqGuard bo t x y (a.eval x) (a.eval y); binOp bo t (a.eval x) (a.eval y) : Sem Value)))) := by simp [execOp]
              rw [this, Sem.run_bind, h2]
              simp
            rw [hrun]
            exact hnext s' g _ w q1 (by rw [q2]; exact To.refl hk) h3
          · exact h3.elim
        · exact h.elim
      · exact h.elim
  obtain ⟨dst, op, type, pos, after, guard⟩ := o
  cases op
  case call c =>
    obtain ⟨callee, args, ats⟩ := c
    cases callee
    case value f =>
      simp only [stepK, callK] at h
      have hf := ev_rel hs f
      have hargs : ∀ j x, (args.toList.map s.ev)[j]? = some x → Rel g w ((args.toList.map a.eval).getD j undef) x := by
        intro j x hj
        simp only [List.getElem?_map, Option.map_eq_some_iff] at hj
        obtain ⟨y, h1, rfl⟩ := hj
        simp only [List.getD, List.getElem?_map, h1, Option.map_some, Option.getD_some]
        exact ev_rel hs y
      have key : ∀ (id : FuncId) (first caps : Array Value) (xf xc : List AV), a.eval f = .func (.func id) first caps → xf.length = first.size → xc.length = caps.size → (∀ j x, xf[j]? = some x → Rel g w (first.getD j undef) x) → (∀ j x, xc[j]? = some x → Rel g w (caps.getD j undef) x) →
          Call P K dst s id (xf ++ args.toList.map s.ev ++ xc) k → (⟨dst, .call ⟨.value f, args, ats⟩, type, pos, after, guard⟩ : Oper).wp P a w next Q := by
        intro id first caps xf xc he l1 l2 r1 r2 hC
        obtain ⟨hcb, hC⟩ := hC
        have hall : ∀ j x, (xf ++ args.toList.map s.ev ++ xc)[j]? = some x → Rel g w ((first.toList ++ args.toList.map a.eval ++ caps.toList).getD j undef) x := by
          intro j x hj
          simp only [List.getD]
          by_cases h1 : j < first.size
          · rw [List.append_assoc, List.getElem?_append_left (by omega)] at hj
            rw [List.append_assoc, List.getElem?_append_left (by simpa using h1), Array.getElem?_toList]
            have := r1 j x hj
            rwa [Array.getD_eq_getD_getElem?] at this
          · by_cases h2 : j < first.size + args.size
            · rw [List.getElem?_append_left (by simp; omega), List.getElem?_append_right (by omega)] at hj
              rw [List.getElem?_append_left (by simp; omega), List.getElem?_append_right (by simp; omega)]
              have := hargs _ x hj
              rw [l1] at this
              simpa [List.getD] using this
            · rw [List.getElem?_append_right (by simp; omega)] at hj
              rw [List.getElem?_append_right (by simp; omega), Array.getElem?_toList]
              have := r2 _ x hj
              rw [Array.getD_eq_getD_getElem?] at this
              simpa [l1] using this
        have hcall := hC g (first.toList ++ args.toList.map a.eval ++ caps.toList) w a next (by simp [l1, l2]) hall hk hs hnext
        have hrun : (execOp a.eval ⟨dst, .call ⟨.value f, args, ats⟩, type, pos, after, guard⟩).run P w = .ok (.enter id (first ++ args.map a.eval ++ caps)) w := by
          simp [execOp, resolve, Deferred.ofValue, he, invoke, cbl_run hcb]
        unfold Oper.wp
        rw [hrun]
        simp only [Oper.upon]
        have e : (first.toList ++ args.toList.map a.eval ++ caps.toList).toArray = first ++ args.map a.eval ++ caps := by
          apply Array.ext'
          simp
        rw [e] at hcall
        refine hcall.mono ?_
        rintro e w' ⟨v, rfl, hn⟩
        exact hn
      split at h
      · rename_i id xf xc hfe
        rw [hfe] at hf
        generalize hv : a.eval f = v at hf
        cases hf with
        | d hr =>
          cases hr with
          | func q1 q2 q3 q4 =>
            refine key id _ _ (xf.map .d) (xc.map .d) hv (by simpa using q1) (by simpa using q2) (fun j x hj => ?_) (fun j x hj => ?_) h
            · simp only [List.getElem?_map, Option.map_eq_some_iff] at hj
              obtain ⟨y, h1, rfl⟩ := hj
              exact .d (q3 j y h1)
            · simp only [List.getElem?_map, Option.map_eq_some_iff] at hj
              obtain ⟨y, h1, rfl⟩ := hj
              exact .d (q4 j y h1)
      · rename_i id xf xc hfe
        rw [hfe] at hf
        generalize hv : a.eval f = v at hf
        cases hf with
        | func q1 q2 q3 q4 => exact key id _ _ xf xc hv q1 q2 q3 q4 h
      · exact h.elim
    all_goals exact hgen h
  all_goals exact hgen h

theorem WR_sound {K : List Nat} {ops : Array Oper} : ∀ (l : List Oper) (n : Nat), (∀ j, j < l.length → ops[n + j]? = l[j]?) → ∀ {s : St} {k : St → Prop}, WR P K ops l s k → ∀ {g : G} {a : Act} {w : World}, KIn K s.hp → Sim g s a w →
    ∀ {Q : Exit → Act → World → Prop}, (∀ s' g' a' w', Sim g' s' a' w' → To K g s.hp w g' s'.hp w' → k s' → Q .normal a' w') → wpOps P ops Q ((List.range l.length).map (n + ·)) a w
  | [], n, _, s, k, h, g, a, w, hk, hs, Q, hq => hq s g a w hs (To.refl hk) h
  | o :: r, n, hops, s, k, h, g, a, w, hk, hs, Q, hq => by
    have ho : ops[n]? = some o := by simpa using hops 0 (by simp)
    have hrest : ∀ j, j < r.length → ops[n + 1 + j]? = r[j]? := fun j hj => by
      have := hops (j + 1) (by simp; omega)
      rw [show n + 1 + j = n + (j + 1) by omega]
      simpa using this
    have hlist : (List.range (o :: r).length).map (n + ·) = n :: (List.range r.length).map (n + 1 + ·) := by
      rw [List.length_cons, List.range_succ_eq_map, List.map_cons, List.map_map]
      congr 1
      apply List.map_congr_left
      intro x _
      simp; omega
    rw [hlist]
    simp only [wpOps, ho]
    have hstep : stepK P K o s (fun s' => WR P K ops r s' k) → o.wp P a w (wpOps P ops Q ((List.range r.length).map (n + 1 + ·))) Q := fun h1 =>
      stepK_sound h1 hk hs fun s' g' a' w' q1 q2 q3 => WR_sound r (n + 1) hrest q3 q2.ki q1 fun s'' g'' a'' w'' p1 p2 p3 => hq s'' g'' a'' w'' p1 (q2.trans p2) p3
    simp only [WR] at h
    split at h
    · rename_i hg
      have : Region.wanted o (yielded ops a.tmps) = true := by unfold Region.wanted; rw [hg]
      rw [if_pos this]
      exact .inl (hstep h)
    · rename_i j want hg
      split at h
      · rename_i b hb
        have hy := gd_spec hs hb
        have hwant : Region.wanted o (yielded ops a.tmps) = b := by
          unfold Region.wanted
          rw [hg]
          exact hy
        rw [hwant]
        cases b with
        | true =>
          simp only [if_true]
          exact .inl (hstep (h.1 rfl))
        | false =>
          simp only [Bool.false_eq_true, if_false]
          have h2 := h.2 rfl
          split at h2
          · rename_i s' hs'
            obtain ⟨q1, q2⟩ := setv_sound (v := undef) hs (und_rel _ _) hs'
            refine WR_sound r (n + 1) hrest h2 (by rw [q2]; exact hk) q1 fun s'' g'' a'' w'' p1 p2 p3 => hq s'' g'' a'' w'' p1 ?_ p3
            rw [q2] at p2
            exact p2
          · exact h2.elim
      · exact h.elim
theorem W_region {K : List Nat} {id : Nat} {ops : Array Oper} {s : St} {Q : Exit → St → Prop} (h : WR P K ops ops.toList s (Q .normal)) : W P K (.region id ops false) s Q := fun g a w hk hs => by
  refine wp_region ?_
  have := WR_sound (P := P) ops.toList 0 (fun j hj => by simp) h hk hs (Q := fun e a' w' => ∃ s' g', Sim g' s' a' w' ∧ To K g s.hp w g' s'.hp w' ∧ Q e s') fun s' g' a' w' p1 p2 p3 => ⟨s', g', p1, p2, p3⟩
  simpa using this
end Go.Wl

