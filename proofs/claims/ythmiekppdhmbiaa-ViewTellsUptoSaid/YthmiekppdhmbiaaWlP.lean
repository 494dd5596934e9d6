/- Values and memory told without addresses: brief code. -/
import Derived.Test.YthmiekppdhmbiaaWlO
set_option linter.unusedVariables false
set_option linter.unusedSimpArgs false
namespace Go.Wl
variable {P : Program}

/-- Code, briefly. -/
inductive Cc where
  | skip
  | region (ops : List Sop)
  | draw (ops : List (Sop × Kd))
  | seq (a b : Cc)
  | cond (c : Operand) (x y : Cc)
  | block (id : Nat) (b : Cc)
  | loop (b : Cc)
  | exit (id : Nat)
  | ret
  | bad
def compC : Code → Cc
  | .skip => .skip
  | .region _ ops draw => bif draw then (match copD ops with
      | some l => .draw l
      | none => .bad)
    else (match copS ops ops.toList with
      | some l => .region l
      | none => .bad)
  | .seq a b => .seq (compC a) (compC b)
  | .cond c x y => .cond c (compC x) (compC y)
  | .block id b => .block id (compC b)
  | .loop b => .loop (compC b)
  | .exit id => .exit id
  | .ret => .ret
  | _ => .bad
/-- What brief code does. -/
def WC (P : Program) (K : List Nat) (cc : Cc) (s : St) (Q : Exit → St → Prop) : Prop := ∀ c, compC c = cc → W P K c s Q
section
variable {K : List Nat} {s : St} {Q : Exit → St → Prop}
theorem comp_region {a b : Nat} {ops : Array Oper} {draw : Bool} : (∃ l, compC (.region a ops draw) = .region l ∧ draw = false ∧ copS ops ops.toList = some l) ∨ (∃ l, compC (.region a ops draw) = .draw l ∧ draw = true ∧ copD ops = some l) ∨ compC (.region a ops draw) = .bad := by
  simp only [compC]
  cases draw with
  | false =>
    cases copS ops ops.toList with
    | none => exact .inr (.inr rfl)
    | some l => exact .inl ⟨l, rfl, rfl, rfl⟩
  | true =>
    cases copD ops with
    | none => exact .inr (.inr rfl)
    | some l => exact .inr (.inl ⟨l, rfl, rfl, rfl⟩)
theorem WC_skip (h : Q .normal s) : WC P K .skip s Q := fun c hc => by
  cases c with
  | skip => exact W_skip h
  | region a ops draw => rcases comp_region (a := a) (b := 0) (ops := ops) (draw := draw) with ⟨l, e, _⟩ | ⟨l, e, _⟩ | e <;> rw [e] at hc <;> cases hc
  | _ => simp [compC] at hc
theorem WC_exit {id : Nat} (h : Q (.exit id) s) : WC P K (.exit id) s Q := fun c hc => by
  cases c with
  | exit id => simp only [compC, Cc.exit.injEq] at hc; subst hc; exact W_exit h
  | region a ops draw => rcases comp_region (a := a) (b := 0) (ops := ops) (draw := draw) with ⟨l, e, _⟩ | ⟨l, e, _⟩ | e <;> rw [e] at hc <;> cases hc
  | _ => simp [compC] at hc
theorem WC_ret (h : Q .ret s) : WC P K .ret s Q := fun c hc => by
  cases c with
  | ret => exact W_ret h
  | region a ops draw => rcases comp_region (a := a) (b := 0) (ops := ops) (draw := draw) with ⟨l, e, _⟩ | ⟨l, e, _⟩ | e <;> rw [e] at hc <;> cases hc
  | _ => simp [compC] at hc
theorem WC_seq {a b : Cc} (h : WC P K a s (thenQ (fun s' => WC P K b s' Q) Q)) : WC P K (.seq a b) s Q := fun c hc => by
  cases c with
  | seq x y =>
    simp only [compC, Cc.seq.injEq] at hc
    obtain ⟨rfl, rfl⟩ := hc
    refine W_seq (W_mono (h x rfl) fun e s' hq => ?_)
    cases e with
    | normal => exact hq y rfl
    | _ => exact hq
  | region a ops draw => rcases comp_region (a := a) (b := 0) (ops := ops) (draw := draw) with ⟨l, e, _⟩ | ⟨l, e, _⟩ | e <;> rw [e] at hc <;> cases hc
  | _ => simp [compC] at hc
theorem WC_cond {o : Operand} {x y : Cc} (h : boolOf (s.ev o) fun t => (t = true → WC P K x s Q) ∧ (t = false → WC P K y s Q)) : WC P K (.cond o x y) s Q := fun c hc => by
  cases c with
  | cond c' x' y' =>
    simp only [compC, Cc.cond.injEq] at hc
    obtain ⟨rfl, rfl, rfl⟩ := hc
    unfold boolOf at h
    split at h
    · rename_i b hb
      exact W_cond hb (fun e => h.1 e x' rfl) (fun e => h.2 e y' rfl)
    · exact h.elim
  | region a ops draw => rcases comp_region (a := a) (b := 0) (ops := ops) (draw := draw) with ⟨l, e, _⟩ | ⟨l, e, _⟩ | e <;> rw [e] at hc <;> cases hc
  | _ => simp [compC] at hc
theorem WC_block {id : Nat} {b : Cc} (h : WC P K b s (blockQ id Q)) : WC P K (.block id b) s Q := fun c hc => by
  cases c with
  | block id' b' =>
    simp only [compC, Cc.block.injEq] at hc
    obtain ⟨rfl, rfl⟩ := hc
    exact W_block (h b' rfl)
  | region a ops draw => rcases comp_region (a := a) (b := 0) (ops := ops) (draw := draw) with ⟨l, e, _⟩ | ⟨l, e, _⟩ | e <;> rw [e] at hc <;> cases hc
  | _ => simp [compC] at hc
theorem WC_loop {b : Cc} (I : Nat → St → Prop) (n : Nat) (h0 : I n s) (step : ∀ n s, I n s → WC P K b s (thenQ (fun s' => ∃ m, m < n ∧ I m s') Q)) : WC P K (.loop b) s Q := fun c hc => by
  cases c with
  | loop b' =>
    simp only [compC, Cc.loop.injEq] at hc
    exact W_loop I n h0 fun n s hI => step n s hI b' hc
  | region a ops draw => rcases comp_region (a := a) (b := 0) (ops := ops) (draw := draw) with ⟨l, e, _⟩ | ⟨l, e, _⟩ | e <;> rw [e] at hc <;> cases hc
  | _ => simp [compC] at hc
theorem WC_region {l : List Sop} (h : WRs P K l s (Q .normal)) : WC P K (.region l) s Q := fun c hc => by
  cases c with
  | region a ops draw =>
    rcases comp_region (a := a) (b := 0) (ops := ops) (draw := draw) with ⟨l', e, e1, e2⟩ | ⟨l', e, _⟩ | e <;> rw [e] at hc
    · simp only [Cc.region.injEq] at hc; subst hc; subst e1
      exact W_region (WRs_WR e2 h)
    · cases hc
    · cases hc
  | _ => simp [compC] at hc
theorem WC_draw {l : List (Sop × Kd)} {K' : List Nat} (hm : P.follows .mixedOrders = true) (hq : ∀ q, objNames s.hp = q → q = K') (h1 : K.all (memb K' ·) = true) (h : WDs P K' false l s (Q .normal)) : WC P K (.draw l) s Q := fun c hc => by
  cases c with
  | region a ops draw =>
    rcases comp_region (a := a) (b := 0) (ops := ops) (draw := draw) with ⟨l', e, _⟩ | ⟨l', e, e1, e2⟩ | e <;> rw [e] at hc
    · cases hc
    · simp only [Cc.draw.injEq] at hc; subst hc; subst e1
      exact W_draw hm e2 (fun n hn => (memb_iff _ _).1 (List.all_eq_true.1 h1 n hn)) (fun n hn => by
        rw [← hq _ rfl] at hn
        simp only [objNames, List.mem_filter] at hn
        exact isObj_spec hn.2) h
    · cases hc
  | _ => simp [compC] at hc
theorem WC_keep {cc : Cc} (ts ns : List Nat) (hK : K.all (memb ns ·) = true) (h : WC P K cc (s.keep ts ns) Q) : WC P K cc s Q := fun c hc => W_keep ts ns hK (h c hc)
theorem WC_mono {cc : Cc} {Q' : Exit → St → Prop} (h : WC P K cc s Q) (hq : ∀ e s', Q e s' → Q' e s') : WC P K cc s Q' := fun c hc => W_mono (h c hc) hq
end
def bodyC (fn : Func) : Cc := match fn.body with
  | some c => compC c
  | none => .bad
theorem Con.ofWC {f : FuncId} {fn : Func} {cc : Cc} {args : List AV} {hp : Hp} {R : AV → Hp → Prop} (hf : P.funcs[f]? = some fn) (hb : bodyC fn = cc) (hne : cc ≠ .bad) (hcb : cbl P f = true) (hlen : args.length ≤ fn.ntmps) (ns : List Nat)
    (hns : (objNames hp).all (memb ns ·) = true) (h : WC P (objNames hp) cc (initSt fn.ntmps args hp) (retQ P fn.results.toList ns R)) : Con P f args hp R := by
  unfold bodyC at hb
  split at hb
  · rename_i c hc
    exact Con.ofW hf hc hcb hlen ns hns (h c hb)
  · exact absurd hb.symm hne
/-- Steps of a region. -/
theorem stepS_of {K : List Nat} {d : Option Nat} {op : Op} {s s' : St} {k : St → Prop} (h : aopS P d op s = some s') (hk : k s') : stepS P K d op s k := by
  unfold stepS
  split
  · exact absurd h (by simp [aopS, aop])
  · rw [h]; exact hk
theorem WRs_nil {K : List Nat} {s : St} {k : St → Prop} (h : k s) : WRs P K [] s k := h
theorem WRs_n {K : List Nat} {d : Option Nat} {op : Op} {r : List Sop} {s s' : St} {k : St → Prop} (h : aopS P d op s = some s') (hk : WRs P K r s' k) : WRs P K (⟨d, op, none⟩ :: r) s k := stepS_of h hk
theorem WRs_c {K : List Nat} {d : Option Nat} {op : Op} {r : List Sop} {s : St} {k : St → Prop} (h : ∀ k' : St → Prop, (∀ s', WRs P K r s' k → k' s') → stepS P K d op s k') : WRs P K (⟨d, op, none⟩ :: r) s k := h _ fun _ h => h
theorem stepS_o {K : List Nat} {d : Option Nat} {op : Op} {s : St} {k : St → Prop} (h : opt (aopS P d op s) k) : stepS P K d op s k := by
  cases ha : aopS P d op s with
  | none => rw [ha] at h; exact h.elim
  | some s' => rw [ha] at h; exact stepS_of ha h
theorem gdv_b {b w : Bool} : gdv (.d (.bool b)) w = some (b == w) := rfl
theorem gdv_u {w : Bool} : gdv und w = some false := rfl
theorem WRs_gt {K : List Nat} {d : Option Nat} {op : Op} {r : List Sop} {s : St} {k : St → Prop} {t : Nat} {w : Bool} (hb : s.get t = .d (.bool w)) (h : WRs P K (⟨d, op, none⟩ :: r) s k) : WRs P K (⟨d, op, some (t, w)⟩ :: r) s k := by
  unfold WRs gdOf
  rw [hb, gdv_b]
  exact ⟨fun _ => h, fun e => absurd e (by simp)⟩
theorem WRs_gv {K : List Nat} {d : Option Nat} {op : Op} {r : List Sop} {s s' : St} {k : St → Prop} {t : Nat} {w b : Bool} (hb : s.get t = .d (.bool b)) (hs : s.setv d und = some s') (h1 : b = w → WRs P K (⟨d, op, none⟩ :: r) s k) (h2 : b = !w → WRs P K r s' k) : WRs P K (⟨d, op, some (t, w)⟩ :: r) s k := by
  unfold WRs gdOf
  rw [hb, gdv_b]
  refine ⟨fun e => h1 (by simpa using e), fun e => ?_⟩
  rw [hs]; exact h2 (by cases b <;> cases w <;> simp_all)
theorem WRs_gf {K : List Nat} {d : Option Nat} {op : Op} {r : List Sop} {s s' : St} {k : St → Prop} {t : Nat} {w : Bool} (hb : s.get t = .d (.bool (!w))) (hs : s.setv d und = some s') (h : WRs P K r s' k) : WRs P K (⟨d, op, some (t, w)⟩ :: r) s k :=
  WRs_gv hb hs (fun e => absurd e (by cases w <;> simp)) fun _ => h
theorem WRs_gu {K : List Nat} {d : Option Nat} {op : Op} {r : List Sop} {s s' : St} {k : St → Prop} {t : Nat} {w : Bool} (hb : s.get t = und) (hs : s.setv d und = some s') (h : WRs P K r s' k) : WRs P K (⟨d, op, some (t, w)⟩ :: r) s k := by
  unfold WRs gdOf
  rw [hb, gdv_u]
  refine ⟨fun e => (by cases e), fun e => ?_⟩
  rw [hs]; exact h
/-- A comparison's result under a name. -/
theorem WRs_bool {K : List Nat} {d : Nat} {op : BinOp} {t y' : TypeId} {x y : Operand} {r : List Sop} {s : St} {k : St → Prop} {E : Bool} (h : abin P op t x y (s.ev x) (s.ev y) = some (.d (.bool E))) (hd : ltb d s.n = true)
    (hk : ∀ b, E = b → WRs P K r { s with tm := lset s.tm d (.d (.bool b)) } k) : WRs P K (⟨some d, .binOp op t x y y', none⟩ :: r) s k := by
  refine WRs_n (s' := { s with tm := lset s.tm d (.d (.bool E)) }) ?_ (hk E rfl)
  simp only [aopS, h, ob, St.setv, hd, cond]
theorem WC_cv {K : List Nat} {s : St} {Q : Exit → St → Prop} {o : Operand} {x y : Cc} {b : Bool} (hb : s.ev o = .d (.bool b)) (h1 : b = true → WC P K x s Q) (h2 : b = false → WC P K y s Q) : WC P K (.cond o x y) s Q := by
  refine WC_cond ?_
  rw [hb]
  exact ⟨h1, h2⟩
theorem set_same {s : St} {t : Nat} {x : AV} (h : s.get t = x) : ∀ i, ({ s with tm := lset s.tm t x } : St).get i = s.get i := fun i => by
  unfold St.get at *
  simp only [lk_lset]
  by_cases e : t = i
  · subst e
    rw [if_pos rfl]; exact h.symm
  · rw [if_neg e]
theorem thenQ_n {c : St → Prop} {Q : Exit → St → Prop} {s : St} (h : c s) : thenQ c Q .normal s := h
theorem thenQ_r {c : St → Prop} {Q : Exit → St → Prop} {s : St} (h : Q .ret s) : thenQ c Q .ret s := h
theorem thenQ_e {c : St → Prop} {Q : Exit → St → Prop} {s : St} {id : Nat} (h : Q (.exit id) s) : thenQ c Q (.exit id) s := h
theorem blockQ_n {Q : Exit → St → Prop} {s : St} {id : Nat} (h : Q .normal s) : blockQ id Q .normal s := h
theorem blockQ_r {Q : Exit → St → Prop} {s : St} {id : Nat} (h : Q .ret s) : blockQ id Q .ret s := h
theorem blockQ_e {Q : Exit → St → Prop} {s : St} {id : Nat} (h : Q .normal s) : blockQ id Q (.exit id) s := by simp only [blockQ, if_true]; exact h
theorem blockQ_o {Q : Exit → St → Prop} {s : St} {id j : Nat} (hj : (j == id) = false) (h : Q (.exit j) s) : blockQ id Q (.exit j) s := by
  simp only [blockQ]
  rw [if_neg (by simpa using hj)]; exact h
/-- The same steps, for a walk that reckons. -/
theorem RUN_n {K : List Nat} {d : Option Nat} {op : Op} {r : List Sop} {s s' : St} {k : St → Prop} (h : ∀ q, aopS P d op s = q → q = some s') (hk : WRs P K r s' k) : WRs P K (⟨d, op, none⟩ :: r) s k := WRs_n (h _ rfl) hk
theorem RUN_bool {K : List Nat} {d : Nat} {op : BinOp} {t y' : TypeId} {x y : Operand} {r : List Sop} {s : St} {s'' : Bool → St} {k : St → Prop} {E : Bool} (h : ∀ q, abin P op t x y (s.ev x) (s.ev y) = q → q = some (.d (.bool E)))
    (hs : ∀ b q, s.setv (some d) (.d (.bool b)) = q → q = some (s'' b)) (hk : ∀ b, E = b → WRs P K r (s'' b) k) : WRs P K (⟨some d, .binOp op t x y y', none⟩ :: r) s k := by
  refine WRs_n ?_ (hk E rfl)
  simp only [aopS, h _ rfl, ob, hs E _ rfl]
theorem RUN_gt {K : List Nat} {d : Option Nat} {op : Op} {r : List Sop} {s : St} {k : St → Prop} {t : Nat} {w : Bool} (hb : ∀ q, s.get t = q → q = .d (.bool w)) (h : WRs P K (⟨d, op, none⟩ :: r) s k) : WRs P K (⟨d, op, some (t, w)⟩ :: r) s k := WRs_gt (hb _ rfl) h
theorem RUN_gf {K : List Nat} {d : Option Nat} {op : Op} {r : List Sop} {s s' : St} {k : St → Prop} {t : Nat} {w : Bool} (hb : ∀ q, s.get t = q → q = .d (.bool (!w))) (hs : ∀ q, s.setv d und = q → q = some s') (h : WRs P K r s' k) : WRs P K (⟨d, op, some (t, w)⟩ :: r) s k := WRs_gf (hb _ rfl) (hs _ rfl) h
theorem RUN_gu {K : List Nat} {d : Option Nat} {op : Op} {r : List Sop} {s s' : St} {k : St → Prop} {t : Nat} {w : Bool} (hb : ∀ q, s.get t = q → q = und) (hs : ∀ q, s.setv d und = q → q = some s') (h : WRs P K r s' k) : WRs P K (⟨d, op, some (t, w)⟩ :: r) s k := WRs_gu (hb _ rfl) (hs _ rfl) h
theorem RUN_gv {K : List Nat} {d : Option Nat} {op : Op} {r : List Sop} {s s' : St} {k : St → Prop} {t : Nat} {w b : Bool} (hb : ∀ q, s.get t = q → q = .d (.bool b)) (hs : ∀ q, s.setv d und = q → q = some s') (h1 : b = w → WRs P K (⟨d, op, none⟩ :: r) s k) (h2 : b = !w → WRs P K r s' k) :
    WRs P K (⟨d, op, some (t, w)⟩ :: r) s k := WRs_gv (hb _ rfl) (hs _ rfl) h1 h2
theorem RUN_cv {K : List Nat} {s : St} {Q : Exit → St → Prop} {o : Operand} {x y : Cc} {b : Bool} (hb : ∀ q, s.ev o = q → q = .d (.bool b)) (h1 : b = true → WC P K x s Q) (h2 : b = false → WC P K y s Q) : WC P K (.cond o x y) s Q := WC_cv (hb _ rfl) h1 h2
theorem RUN_call {K : List Nat} {d : Option Nat} {f : Operand} {args : Array Operand} {ats : Array TypeId} {r : List Sop} {s : St} {k : St → Prop} {id : FuncId} {first caps : List D} {args' : List AV} {hp0 : Hp} {R : AV → Hp → Prop} (m : List Bool) (L : List Nat)
    (hf : ∀ q, s.ev f = q → q = .d (.func (.func id) first caps)) (ha : ∀ q, asArgs m (first.map .d ++ args.toList.map s.ev ++ caps.map .d) = q → q = some args') (hh : ∀ q, hpSel L s.hp = q → q = hp0) (hC : Con P id args' hp0 R)
    (hk : ∀ r' hp', R r' hp' → afterOk s L d r' hp' = true ∧ ∀ q, s.after L d r' hp' = q → WRs P K r q k) : WRs P K (⟨d, .call { callee := .value f, args, argTypes := ats }, none⟩ :: r) s k := by
  show callK P K d s (s.ev f) (args.toList.map s.ev) _
  rw [hf _ rfl]
  refine Call_con m L (ha _ rfl) (by rw [hh _ rfl]; exact hC) fun r' hp' hR => ?_
  obtain ⟨h1, h2⟩ := hk r' hp' hR
  exact ⟨h1, h2 _ rfl⟩
theorem RUN_callf {K : List Nat} {d : Option Nat} {f : Operand} {args : Array Operand} {ats : Array TypeId} {r : List Sop} {s : St} {k : St → Prop} {id : FuncId} {first caps : List AV} {args' : List AV} {hp0 : Hp} {R : AV → Hp → Prop} (m : List Bool) (L : List Nat)
    (hf : ∀ q, s.ev f = q → q = .func (.func id) first caps) (ha : ∀ q, asArgs m (first ++ args.toList.map s.ev ++ caps) = q → q = some args') (hh : ∀ q, hpSel L s.hp = q → q = hp0) (hC : Con P id args' hp0 R)
    (hk : ∀ r' hp', R r' hp' → afterOk s L d r' hp' = true ∧ ∀ q, s.after L d r' hp' = q → WRs P K r q k) : WRs P K (⟨d, .call { callee := .value f, args, argTypes := ats }, none⟩ :: r) s k := by
  show callK P K d s (s.ev f) (args.toList.map s.ev) _
  rw [hf _ rfl]
  refine Call_con m L (ha _ rfl) (by rw [hh _ rfl]; exact hC) fun r' hp' hR => ?_
  obtain ⟨h1, h2⟩ := hk r' hp' hR
  exact ⟨h1, h2 _ rfl⟩
theorem RUN_ret {rs : List ResultVar} {ns : List Nat} {R : AV → Hp → Prop} {s : St} {r : AV} {hp' : Hp} (h : ∀ q, aret P s rs = q → q = some r) (hh : ∀ q, keepL s.hp ns = q → q = hp') (hR : R r hp') : retQ P rs ns R .ret s := ⟨r, r, h _ rfl, .inl rfl, by rw [hh _ rfl]; exact hR⟩
theorem RUN_end {rs : List ResultVar} {ns : List Nat} {R : AV → Hp → Prop} {s : St} {r : AV} {hp' : Hp} (h : ∀ q, aret P s rs = q → q = some r) (hh : ∀ q, keepL s.hp ns = q → q = hp') (hR : R r hp') : retQ P rs ns R .normal s := ⟨r, r, h _ rfl, .inl rfl, by rw [hh _ rfl]; exact hR⟩
theorem RUN_retD {rs : List ResultVar} {ns : List Nat} {R : AV → Hp → Prop} {s : St} {r : AV} {x : D} {hp' : Hp} (h : ∀ q, aret P s rs = q → q = some r) (hx : ∀ q, r.toD = q → q = some x) (hh : ∀ q, keepL s.hp ns = q → q = hp') (hR : R (.d x) hp') : retQ P rs ns R .ret s := ⟨r, .d x, h _ rfl, .inr ⟨x, hx _ rfl, rfl⟩, by rw [hh _ rfl]; exact hR⟩
theorem RUN_endD {rs : List ResultVar} {ns : List Nat} {R : AV → Hp → Prop} {s : St} {r : AV} {x : D} {hp' : Hp} (h : ∀ q, aret P s rs = q → q = some r) (hx : ∀ q, r.toD = q → q = some x) (hh : ∀ q, keepL s.hp ns = q → q = hp') (hR : R (.d x) hp') : retQ P rs ns R .normal s := ⟨r, .d x, h _ rfl, .inr ⟨x, hx _ rfl, rfl⟩, by rw [hh _ rfl]; exact hR⟩
/-- A slot's value is told otherwise. -/
def Le (x y : AV) : Prop := ∀ g w v, Rel g w v x → Rel g w v y
theorem Le.refl (x : AV) : Le x x := fun _ _ _ h => h
theorem Le.toD {x : AV} {d : D} (h : x.toD = some d) : Le x (.d d) := fun _ _ _ hr => .d (toD_rep hr h)
theorem Le.any (x : AV) : Le x .any := fun _ _ _ _ => .any
theorem Le.lit {xs : List D} : Le (.lit xs) (.d (.list xs)) := Le.toD rfl
theorem W_le {K : List Nat} {c : Code} {s s' : St} {Q : Exit → St → Prop} (hn : s'.n = s.n) (ht : ∀ i, Le (s.get i) (s'.get i)) (hh : ∀ n ob', lk s'.hp n = some ob' → ∃ ob, lk s.hp n = some ob ∧ (ob' = ob ∨ ∃ vs vs', ob = .cells vs ∧ ob' = .cells vs' ∧ vs'.length ≤ vs.length ∧ ∀ (j : Nat) (y : AV), vs'[j]? = some y → ∃ x, vs[j]? = some x ∧ Le x y))
    (hK : K.all (fun n => isObj (lk s'.hp n)) = true) (h : W P K c s' Q) : W P K c s Q := fun g a w hk hs => by
  have hoo : ∀ n ob', lk s'.hp n = some ob' → ∃ ob, lk s.hp n = some ob ∧ ∀ b o, ownO g n ob' b o ↔ ownO g n ob b o := fun n ob' hn' => by
    obtain ⟨ob, h1, h2⟩ := hh n ob' hn'
    rcases h2 with rfl | ⟨vs, vs', rfl, rfl, _⟩
    · exact ⟨_, h1, fun _ _ => Iff.rfl⟩
    · exact ⟨_, h1, fun _ _ => Iff.rfl⟩
  have hO : ∀ b o, Own g s'.hp b o → Own g s.hp b o := fun b o ⟨n, ob', h1, h2⟩ => by
    obtain ⟨ob, q1, q2⟩ := hoo n ob' h1
    exact ⟨n, ob, q1, (q2 b o).1 h2⟩
  have hsim : Sim g s' a w := by
    refine ⟨hs.n.trans hn.symm, hs.df, fun i => ht i g w _ (hs.tm i), ⟨fun n ob' hn' => ?_, fun b o h1 h2 => hs.hp.sep b o h1 (hO b o h2), fun n m o1 o2 h1 h2 hne b o q1 q2 => ?_, hs.hp.ex⟩⟩
    · obtain ⟨ob, h1, h2⟩ := hh n ob' hn'
      have h3 := hs.hp.ob n ob h1
      rcases h2 with rfl | ⟨vs, vs', rfl, rfl, hl, hv⟩
      · exact h3
      · obtain ⟨c, e, fr, r1, r2, r3, r4⟩ := h3
        exact ⟨c, e, fr, r1, by omega, r3, fun j y hj => by obtain ⟨x, q1, q2⟩ := hv j y hj; exact q2 g w _ (r4 j x q1)⟩
    · obtain ⟨p1, e1, f1⟩ := hoo n o1 h1
      obtain ⟨p2, e2, f2⟩ := hoo m o2 h2
      exact hs.hp.dis n m p1 p2 e1 e2 hne b o ((f1 b o).1 q1) ((f2 b o).1 q2)
  have hki : KIn K s'.hp := fun n hn => isObj_spec (List.all_eq_true.1 hK n hn)
  have htt : To K g s.hp w g s'.hp w := ⟨Ev.world rfl rfl rfl rfl (fun _ _ => Iff.rfl) hO, fun _ _ => ⟨rfl, rfl⟩, hki⟩
  exact wp_mono (h g a w hki hsim) fun e a' w' ⟨s2, g', q1, q2, q3⟩ => ⟨s2, g', q1, htt.trans q2, q3⟩
theorem nilS_abin {bo : BinOp} {t : TypeId} {ox y : Operand} {vx vy : AV} {p : List D × Bool} (h : nilS P bo t y vx = some p) : abin P bo t ox y vx vy = none := by
  unfold nilS at h
  split at h
  · rename_i xs
    cases hc : (isConstNil (tk P t) y && isSl (tk P t))
    · rw [hc] at h; cases h
    · simp only [Bool.and_eq_true] at hc
      have hk : tk P t = .slice := by cases hq : tk P t <;> rw [hq] at hc <;> first | rfl | (have := hc.2; cases this)
      unfold abin
      split
      all_goals first | (rw [hc.1, hk]; rfl) | (rename_i e; cases e) | (rename_i e _; cases e) | (exfalso; simp_all; done)
  · cases h
theorem WRs_nil2 {K : List Nat} {d : Nat} {bo : BinOp} {t yt : TypeId} {x y : Operand} {r : List Sop} {s : St} {s' : Bool → St} {k : St → Prop} {xs : List D} {pos : Bool} (hn : ∀ q, nilS P bo t y (s.ev x) = q → q = some (xs, pos))
    (hs : ∀ b q, s.setv (some d) (.d (.bool b)) = q → q = some (s' b)) (hk : ∀ b, (b = pos → xs = []) → WRs P K r (s' b) k) : WRs P K (⟨some d, .binOp bo t x y yt, none⟩ :: r) s k := by
  have hn := hn _ rfl
  show stepS P K (some d) (.binOp bo t x y yt) s fun s' => WRs P K r s' k
  unfold stepS
  simp only [aopS, nilS_abin hn, ob, nilK, hn]
  intro b hb
  rw [hs _ _ rfl]
  exact hk _ fun e => hb (by cases b <;> cases pos <;> simp_all)
/-- A loop, told by what is kept at its head. -/
theorem WC_loopI {K : List Nat} {s : St} {Q : Exit → St → Prop} {b : Cc} {α : Type} (T N : List Nat) (I : α → Prop) (S : α → St) (m : α → Nat) (hK : K.all (memb N ·) = true) (x0 : α) (h0 : ∀ q, s.keep T N = q → q = S x0) (hI : I x0)
    (step : ∀ x, I x → WC P K b (S x) (thenQ (fun s' => ∃ y, I y ∧ m y < m x ∧ ∀ q, s'.keep T N = q → q = S y) Q)) : WC P K (.loop b) s Q :=
  WC_loop (fun n s => ∃ x, I x ∧ m x = n ∧ s.keep T N = S x) (m x0) ⟨x0, hI, rfl, h0 _ rfl⟩ fun n s ⟨x, h1, h2, h3⟩ => by
    refine WC_keep T N hK ?_
    rw [h3]
    refine WC_mono (step x h1) fun e s' h => ?_
    cases e with
    | normal =>
      obtain ⟨y, q1, q2, q3⟩ := h
      exact ⟨m y, by omega, y, q1, rfl, q3 _ rfl⟩
    | _ => exact h
/-- Steps of a region in any order. -/
theorem RUND_nil {K : List Nat} {m : Bool} {s : St} {k : St → Prop} (h : k s) : WDs P K m [] s k := h
theorem RUND_n {K : List Nat} {m : Bool} {d : Option Nat} {op : Op} {r : List (Sop × Kd)} {s s' : St} {k : St → Prop} (h : ∀ q, aopD P d op s s = q → q = some s') (hk : WDs P K m r s' k) : WDs P K m ((⟨d, op, none⟩, .pu) :: r) s k := by
  show opt (aopD P d op s s) _
  rw [h _ rfl]; exact hk
theorem RUND_l {K ls : List Nat} {m : Bool} {d : Option Nat} {op : Op} {r : List (Sop × Kd)} {s s' : St} {k : St → Prop} (hl : ∀ q, laOK K s ls = q → q = true) (h : ∀ q, aopD P d op { s with hp := [] } s = q → q = some s') (hk : WDs P K m r s' k) : WDs P K m ((⟨d, op, none⟩, .la ls) :: r) s k := by
  refine ⟨hl _ rfl, false, ?_⟩
  show opt (aopD P d op { s with hp := [] } s) _
  rw [h _ rfl, Bool.or_false]; exact hk
theorem RUND_lm {K ls : List Nat} {m : Bool} {d : Option Nat} {op : Op} {r : List (Sop × Kd)} {s s' : St} {k : St → Prop} (hl : ∀ q, laOK K s ls = q → q = true) (h : ∀ q, aopD P d op s s = q → q = some s') (hk : WDs P K true r s' k) : WDs P K m ((⟨d, op, none⟩, .la ls) :: r) s k := by
  refine ⟨hl _ rfl, true, ?_⟩
  show opt (aopD P d op s s) _
  rw [h _ rfl, Bool.or_true]; exact hk
theorem RUND_bool {K : List Nat} {m : Bool} {d : Nat} {op : BinOp} {t y' : TypeId} {x y : Operand} {r : List (Sop × Kd)} {s : St} {s'' : Bool → St} {k : St → Prop} {E : Bool} (h : ∀ q, abin P op t x y (s.ev x) (s.ev y) = q → q = some (.d (.bool E)))
    (hs : ∀ b q, s.setv (some d) (.d (.bool b)) = q → q = some (s'' b)) (hk : ∀ b, E = b → WDs P K m r (s'' b) k) : WDs P K m ((⟨some d, .binOp op t x y y', none⟩, .pu) :: r) s k := by
  show opt (aopD P (some d) (.binOp op t x y y') s s) _
  simp only [aopD, aval, h _ rfl, ob, hs E _ rfl]
  exact hk E rfl
theorem RUND_lbool {K ls : List Nat} {m : Bool} {d : Nat} {op : BinOp} {t y' : TypeId} {x y : Operand} {r : List (Sop × Kd)} {s : St} {s'' : Bool → St} {k : St → Prop} {E : Bool} (hl : ∀ q, laOK K s ls = q → q = true) (h : ∀ q, abin P op t x y (s.ev x) (s.ev y) = q → q = some (.d (.bool E)))
    (hs : ∀ b q, s.setv (some d) (.d (.bool b)) = q → q = some (s'' b)) (hk : ∀ b, E = b → WDs P K m r (s'' b) k) : WDs P K m ((⟨some d, .binOp op t x y y', none⟩, .la ls) :: r) s k := by
  refine ⟨hl _ rfl, false, ?_⟩
  show opt (aopD P (some d) (.binOp op t x y y') { s with hp := [] } s) _
  have e1 : ∀ z, ({ s with hp := [] } : St).ev z = s.ev z := fun z => by cases z <;> rfl
  simp only [aopD, aval, e1, h _ rfl, ob, hs E _ rfl, Bool.or_false]
  exact hk E rfl
theorem RUND_gt {K : List Nat} {m : Bool} {kd : Kd} {d : Option Nat} {op : Op} {r : List (Sop × Kd)} {s : St} {k : St → Prop} {t : Nat} {w : Bool} (hb : ∀ q, s.get t = q → q = .d (.bool w)) (h : WDs P K m ((⟨d, op, none⟩, kd) :: r) s k) : WDs P K m ((⟨d, op, some (t, w)⟩, kd) :: r) s k := by
  have key : ∀ s0 k', pureS P ⟨d, op, none⟩ s0 s k' → pureS P ⟨d, op, some (t, w)⟩ s0 s k' := fun s0 k' h => by
    unfold pureS gdOf
    simp only [hb _ rfl, gdv_b]
    exact ⟨fun _ => h, fun e => absurd e (by simp)⟩
  cases kd with
  | ch D p => exact WRs_gt (hb _ rfl) h
  | pu => exact key _ _ h
  | la ls =>
    obtain ⟨h1, e, h2⟩ := h
    exact ⟨h1, e, key _ _ h2⟩
def skipOK (K : List Nat) (m : Bool) (s' s : St) : Kd → Prop
  | .ch D p => sameOn D s' s ∧ ((m && p) = true → s'.hp = s.hp)
  | .la ls => laOK K s ls = true
  | .pu => True
def nextM (m : Bool) : Kd → Bool
  | .ch _ p => m && p
  | .la _ => m
  | .pu => m
theorem RUND_gv {K : List Nat} {m : Bool} {kd : Kd} {d : Option Nat} {op : Op} {r : List (Sop × Kd)} {s s' : St} {k : St → Prop} {t : Nat} {w b : Bool} (hc : ∀ q, skipOK K m s' s kd = q → q) (hb : ∀ q, s.get t = q → q = .d (.bool b)) (hs : ∀ q, s.setv d und = q → q = some s') (h1 : b = w → WDs P K m ((⟨d, op, none⟩, kd) :: r) s k) (h2 : b = !w → WDs P K (nextM m kd) r s' k) :
    WDs P K m ((⟨d, op, some (t, w)⟩, kd) :: r) s k := by
  have hc := hc _ rfl
  have key : ∀ s0 k', (b = w → pureS P ⟨d, op, none⟩ s0 s k') → (b = (!w) → k' s') → pureS P ⟨d, op, some (t, w)⟩ s0 s k' := fun s0 k' h1 h2 => by
    unfold pureS gdOf
    simp only [hb _ rfl, gdv_b]
    refine ⟨fun e => h1 (by simpa using e), fun e => ?_⟩
    rw [hs _ rfl]; exact h2 (by cases b <;> cases w <;> simp_all)
  cases kd with
  | ch D p => exact WRs_gv (hb _ rfl) (hs _ rfl) h1 fun e => ⟨hc.1, hc.2, h2 e⟩
  | pu => exact key _ _ h1 h2
  | la ls =>
    by_cases e : b = w
    · obtain ⟨q1, e', q2⟩ := h1 e
      exact ⟨hc, e', key _ _ (fun _ => q2) fun e2 => absurd (e.symm.trans e2) (by cases w <;> simp)⟩
    · refine ⟨hc, false, key _ _ (fun e1 => absurd e1 e) fun e2 => ?_⟩
      rw [Bool.or_false]; exact h2 e2
theorem RUND_gf {K : List Nat} {m : Bool} {kd : Kd} {d : Option Nat} {op : Op} {r : List (Sop × Kd)} {s s' : St} {k : St → Prop} {t : Nat} {w : Bool} (hc : ∀ q, skipOK K m s' s kd = q → q) (hb : ∀ q, s.get t = q → q = .d (.bool (!w))) (hs : ∀ q, s.setv d und = q → q = some s') (h : WDs P K (nextM m kd) r s' k) : WDs P K m ((⟨d, op, some (t, w)⟩, kd) :: r) s k :=
  RUND_gv hc hb hs (fun e => absurd e (by cases w <;> simp)) fun _ => h
theorem RUND_gu {K : List Nat} {m : Bool} {kd : Kd} {d : Option Nat} {op : Op} {r : List (Sop × Kd)} {s s' : St} {k : St → Prop} {t : Nat} {w : Bool} (hc : ∀ q, skipOK K m s' s kd = q → q) (hb : ∀ q, s.get t = q → q = und) (hs : ∀ q, s.setv d und = q → q = some s') (h : WDs P K (nextM m kd) r s' k) : WDs P K m ((⟨d, op, some (t, w)⟩, kd) :: r) s k := by
  have hc := hc _ rfl
  have key : ∀ s0 k', k' s' → pureS P ⟨d, op, some (t, w)⟩ s0 s k' := fun s0 k' h => by
    unfold pureS gdOf
    simp only [hb _ rfl, gdv_u]
    refine ⟨fun e => (by cases e), fun e => ?_⟩
    rw [hs _ rfl]; exact h
  cases kd with
  | ch D p => exact WRs_gu (hb _ rfl) (hs _ rfl) ⟨hc.1, hc.2, h⟩
  | pu => exact key _ _ h
  | la ls => exact ⟨hc, false, key _ _ (by rw [Bool.or_false]; exact h)⟩
theorem RUND_ch {K D : List Nat} {m p : Bool} {d : Option Nat} {op : Op} {r : List (Sop × Kd)} {s s' : St} {k : St → Prop} (h : ∀ q, aopS P d op s = q → q = some s') (hD : ∀ q, sameOn D s' s = q → q) (hH : (m && p) = true → s'.hp = s.hp) (hk : WDs P K (m && p) r s' k) : WDs P K m ((⟨d, op, none⟩, .ch D p) :: r) s k := WRs_n (h _ rfl) ⟨hD _ rfl, hH, hk⟩
theorem RUND_call {K D : List Nat} {m p : Bool} {d : Option Nat} {op : Op} {r : List (Sop × Kd)} {s : St} {k : St → Prop} (h : WRs P K [⟨d, op, none⟩] s fun s' => sameOn D s' s ∧ ((m && p) = true → s'.hp = s.hp) ∧ WDs P K (m && p) r s' k) : WDs P K m ((⟨d, op, none⟩, .ch D p) :: r) s k := h
theorem WDs_m {K : List Nat} {m m' : Bool} {r : List (Sop × Kd)} {s : St} {k : St → Prop} (e : m = m') (h : WDs P K m' r s k) : WDs P K m r s k := e ▸ h
end Go.Wl

