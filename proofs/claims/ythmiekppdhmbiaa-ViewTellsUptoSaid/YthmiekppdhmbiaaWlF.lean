/- Values and memory told without addresses: an operation. -/
import Derived.Test.YthmiekppdhmbiaaWlE
set_option linter.unusedVariables false
set_option linter.unusedSimpArgs false
namespace Go.Wl
variable {P : Program}

def St.ev (s : St) : Operand → AV
  | .tmp t => s.get t
  | .const v => ofConst v
  | .func f => .d (.func (.func f) [] [])
  | .global _ => .any
theorem ev_rel {g : G} {s : St} {a : Act} {w : World} (h : Sim g s a w) (x : Operand) : Rel g w (a.eval x) (s.ev x) := by
  cases x with
  | tmp t => exact h.tm t
  | const v => exact ofConst_rel g w v
  | func f => exact .d (.func rfl rfl (by simp) (by simp))
  | global n => exact .any
def St.setv (s : St) (dst : Option Tmp) (x : AV) : Option St :=
  match dst with
  | some d => bif ltb d s.n then some { s with tm := lset s.tm d x } else none
  | none => some s
theorem setv_sound {g : G} {s s' : St} {a : Act} {w : World} (h : Sim g s a w) {dst : Option Tmp} {x : AV} {v : Value} (hv : Rel g w v x) (hs : s.setv dst x = some s') : Sim g s' (a.put dst v) w ∧ s'.hp = s.hp := by
  unfold St.setv at hs
  split at hs
  · rename_i d
    cases hd : ltb d s.n
    · rw [hd] at hs; cases hs
    · rw [hd] at hs
      simp only [cond_true, Option.some.injEq] at hs; subst hs
      exact ⟨h.upd (hp' := s.hp) d (Nat.le_of_ble_eq_true hd) (fun _ _ h => h) (fun _ _ _ => rfl) (fun _ _ _ _ => ⟨rfl, rfl⟩) hv h.hp, rfl⟩
  · simp only [Option.some.injEq] at hs; subst hs
    exact ⟨h, rfl⟩
def apick (x a b : AV) : Option AV :=
  match x with
  | .d (.bool t) => (match a, b with
    | .d (.bool p), .d (.bool q) => some (.d (.bool (bif t then p else q)))
    | a, b => some (bif t then a else b))
  | _ => none
def ank (x : AV) : Option AV :=
  match x with
  | .ptr n off => some (.ptr n off)
  | .d (.cptr y) => some (.d (.cptr y))
  | .func (.func f) a c => some (.func (.func f) a c)
  | .d (.func (.func f) a c) => some (.d (.func (.func f) a c))
  | _ => none
def aconv (P : Program) (s : St) (dst : Option Tmp) (src ty : TypeId) (x : AV) : Option St :=
  match x, dst with
  | .d (.str bs), some d => bif cvB P src ty then acvB P s d src ty (.d (.str bs)) else (match acv P src ty (.d (.str bs)) with
    | some y => s.setv (some d) y
    | none => none)
  | .slc n off len cap, dst => (match acvS P s src ty (.slc n off len cap) with
    | some y => s.setv dst y
    | none => none)
  | x, dst => (match acv P src ty x with
    | some y => s.setv dst y
    | none => none)
def aminmax (mx : Bool) (x y : AV) : Option AV :=
  match x, y with
  | .d (.int k a), .d (.int k' b) => bif decide (k = k') then some (.d (.int k (if (if mx then b > a else b < a) then b else a))) else none
  | _, _ => none
def abuiltin (P : Program) (s : St) (dst : Option Tmp) (b : Builtin) (ts : Array TypeId) (xs : List AV) : Option St :=
  match b, ts.toList, xs, dst with
  | .append, [t0, t1], [x, y], some d => aappend P s d t0 t1 x y
  | .len, [t], [x], dst => (match alen P t x with
    | some y => s.setv dst y
    | none => none)
  | .min, _, [x, y], dst => (match aminmax false x y with
    | some z => s.setv dst z
    | none => none)
  | .max, _, [x, y], dst => (match aminmax true x y with
    | some z => s.setv dst z
    | none => none)
  | _, _, _, _ => none
/-- What an operation does; calls of functions apart. -/
def aop (P : Program) (o : Oper) (s : St) : Option St :=
  let v (x : Option AV) : Option St := match x with
    | some y => s.setv o.dst y
    | none => none
  match o.op with
  | .move x => v (some (s.ev x))
  | .assign x => v (some (s.ev x))
  | .pick c a b => v (apick (s.ev c) (s.ev a) (s.ev b))
  | .nilCheck x => v (ank (s.ev x))
  | .binOp op t x y _ => v (abin P op t x y (s.ev x) (s.ev y))
  | .unOp op _ x => v (aun op (s.ev x))
  | .convert src ty x => aconv P s o.dst src ty (s.ev x)
  | .load t x => v (aload P t s (s.ev x))
  | .store t x y => (match o.dst with
    | none => astore P s t (s.ev x) (s.ev y)
    | some _ => none)
  | .fieldAddr t x f => v (afield P t f (s.ev x))
  | .field t x f => v (afieldV P t f (s.ev x))
  | .indexAddr t x i => v (aindex P t (s.ev x) (s.ev i))
  | .index t x i => v (aindexV P t (s.ev x) (s.ev i))
  | .slice t x lo hi mx => v (aslice P t (s.ev x) (lo.map s.ev) (hi.map s.ev) (mx.map s.ev))
  | .extract x i => v (aext (s.ev x) i)
  | .makeFunc fn f c => v (some (.func fn (f.toList.map s.ev) (c.toList.map s.ev)))
  | .makeInterface t x => v (amkif P t (s.ev x))
  | .box _ x => (match o.dst with
    | some d => abox s d (s.ev x)
    | none => none)
  | .alloc t => (match o.dst with
    | some d => aalloc P s d t
    | none => none)
  | .build t ps => v (abuild P t (ps.toList.map fun p => (p.1, s.ev p.2)))
  | .buildSlice t n ps => (match o.dst with
    | some d => bif ltb d s.n then (match abuildS P s d t n (ps.toList.map fun p => (p.1, s.ev p.2)) with
      | some y => some { s with tm := lset s.tm d y }
      | none => none) else none
    | none => none)
  | .range t x => (match o.dst with
    | some d => arange P s d t (s.ev x)
    | none => none)
  | .next x true => (match o.dst with
    | some d => anext s d (s.ev x)
    | none => none)
  | .call c => (match c.callee with
    | .builtin b => abuiltin P s o.dst b c.argTypes (c.args.toList.map s.ev)
    | _ => none)
  | _ => none

/-- The operation is carried out as told. -/
def Does (P : Program) (o : Oper) (g : G) (s : St) (a : Act) (w : World) (s' : St) : Prop :=
  ∃ r w' g', (execOp a.eval o).run P w = .ok r w' ∧ ((∃ v, r = .value v ∧ Sim g' s' (a.put o.dst v) w') ∨ (r = .skip ∧ Sim g' s' (a.put o.dst undef) w')) ∧ Ev (Own g s.hp) (Own g' s'.hp) g g' w w' ∧ Names g s.hp g' s'.hp
theorem does_val {o : Oper} {g : G} {s s' : St} {a : Act} {w : World} (h : Sim g s a w) {m : Sem Value} (hm : execOp a.eval o = (do pure (.value (← m)))) {y : AV} (hs : s.setv o.dst y = some s')
    (hr : ∃ u, m.run P w = .ok u w ∧ Rel g w u y) : Does P o g s a w s' := by
  obtain ⟨u, h1, h2⟩ := hr
  obtain ⟨h3, h4⟩ := setv_sound h h2 hs
  refine ⟨.value u, w, g, by rw [hm]; simp [h1], .inl ⟨u, rfl, h3⟩, by rw [h4]; exact Ev.refl _ _ _, by rw [h4]; exact Names.refl _ _⟩
theorem does_mem {o : Oper} {g : G} {s s' : St} {a : Act} {w : World} {m : Sem Value} (hm : execOp a.eval o = (do pure (.value (← m))))
    (hr : ∃ u w' g', m.run P w = .ok u w' ∧ Sim g' s' (a.put o.dst u) w' ∧ Ev (Own g s.hp) (Own g' s'.hp) g g' w w' ∧ Names g s.hp g' s'.hp) : Does P o g s a w s' := by
  obtain ⟨u, w', g', h1, h2, h3, h4⟩ := hr
  exact ⟨.value u, w', g', by rw [hm]; simp [h1], .inl ⟨u, rfl, h2⟩, h3, h4⟩
theorem relO_map {g : G} {s : St} {a : Act} {w : World} (h : Sim g s a w) (x : Option Operand) : RelO g w (x.map a.eval) (x.map s.ev) := by
  cases x with
  | none => exact .none
  | some x => exact .some (ev_rel h x)
theorem parts_rel {g : G} {s : St} {a : Act} {w : World} (h : Sim g s a w) (ps : Array (Nat × Operand)) : (ps.toList.map fun p => (p.1, s.ev p.2)).length = (ps.map fun (i, x) => (i, a.eval x)).size ∧
    ∀ (j i : Nat) (x : AV), (ps.toList.map fun p => (p.1, s.ev p.2))[j]? = some (i, x) → ∃ v, (ps.map fun (i, x) => (i, a.eval x)).toList[j]? = some (i, v) ∧ Rel g w v x := by
  refine ⟨by simp, fun j i x hj => ?_⟩
  simp only [List.getElem?_map, Option.map_eq_some_iff] at hj
  obtain ⟨⟨i', y⟩, h1, h2⟩ := hj
  simp only [Prod.mk.injEq] at h2
  obtain ⟨rfl, rfl⟩ := h2
  exact ⟨a.eval y, by simp [h1], ev_rel h y⟩
theorem minmax_sound {g : G} {w : World} {vx vy : Value} {x y z : AV} {ts : Array TypeId} {ty : TypeId} (hx : Rel g w vx x) (hy : Rel g w vy y) :
    (aminmax false x y = some z → ∃ u, (Builtin.min_ ts ty #[vx, vy]).run P w = .ok u w ∧ Rel g w u z) ∧ (aminmax true x y = some z → ∃ u, (Builtin.max_ ts ty #[vx, vy]).run P w = .ok u w ∧ Rel g w u z) := by
  constructor
  all_goals
    intro h
    unfold aminmax at h
    split at h
    · rename_i k a k' b
      cases hk : decide (k = k')
      · rw [hk] at h; cases h
      · rw [hk] at h
        simp only [cond_true, Option.some.injEq] at h; subst h
        cases hx with
        | d hx =>
          cases hx
          cases hy with
          | d hy =>
            cases hy
            first
              | exact ⟨_, run_min_int2 w ts ty _ _ _ _, .d (by simp; exact .int)⟩
              | exact ⟨_, run_max_int2 w ts ty _ _ _ _, .d (by simp; exact .int)⟩
    · cases h
theorem v_some {s s' : St} {dst : Option Tmp} {x : Option AV} (h : (match x with | some y => s.setv dst y | none => none) = some s') : ∃ y, x = some y ∧ s.setv dst y = some s' := by
  cases x with
  | none => cases h
  | some y => exact ⟨y, rfl, h⟩

theorem aop_sound {o : Oper} {g : G} {s s' : St} {a : Act} {w : World} (h : Sim g s a w) (ha : aop P o s = some s') : Does P o g s a w s' := by
  obtain ⟨dst, op, type, pos, after, guard⟩ := o
  cases op <;> simp only [aop] at ha
  case move x => exact does_val (m := pure (a.eval x)) h (by simp [execOp]) ha ⟨a.eval x, by simp, ev_rel h x⟩
  case assign x => exact does_val (m := pure (a.eval x)) h (by simp [execOp]) ha ⟨a.eval x, by simp, ev_rel h x⟩
  case pick c x y =>
    obtain ⟨z, h1, h2⟩ := v_some ha
    have hc := ev_rel h c
    have hx := ev_rel h x
    have hy := ev_rel h y
    refine does_val (m := do pure (if ← asBool (a.eval c) then a.eval x else a.eval y)) h (by simp [execOp]) h2 ?_
    generalize a.eval x = vx at *
    generalize a.eval y = vy at *
    generalize a.eval c = vc at *
    generalize s.ev c = cc at h1 hc
    unfold apick at h1
    split at h1
    · rename_i t
      cases hc with
      | d hc =>
        cases hc
        refine ⟨if t then vx else vy, by simp [asBool], ?_⟩
        split at h1
        · rename_i p q hp hq
          simp only [Option.some.injEq] at h1; subst h1
          rw [hp] at hx
          rw [hq] at hy
          cases t
          · exact hy
          · exact hx
        · simp only [Option.some.injEq] at h1; subst h1
          cases t
          · exact hy
          · exact hx
    · cases h1
  case nilCheck x =>
    obtain ⟨z, h1, h2⟩ := v_some ha
    have hx := ev_rel h x
    refine does_val (m := pure (a.eval x)) h ?_ h2 ⟨a.eval x, by simp, ?_⟩
    · simp only [execOp]
      generalize a.eval x = v at hx
      generalize s.ev x = y at h1 hx
      unfold ank at h1
      split at h1
      · cases hx; rfl
      · cases hx with
        | d hx => cases hx; rfl
      · cases hx; rfl
      · cases hx with
        | d hx => cases hx; rfl
      · cases h1
    · generalize s.ev x = y at h1 hx
      unfold ank at h1
      split at h1 <;> first | (simp only [Option.some.injEq] at h1; subst h1; exact hx) | cases h1
  case binOp op t x y yt =>
    obtain ⟨z, h1, h2⟩ := v_some ha
    exact does_val (m := do eqGuard op t x y (a.eval x) (a.eval y); binOp op t (a.eval x) (a.eval y)) h (by simp [execOp]) h2 (abin_sound (ev_rel h x) (ev_rel h y) (fun v e => by rw [e]; rfl) h1)
  case unOp op t x =>
    obtain ⟨z, h1, h2⟩ := v_some ha
    exact does_val (m := Op.unary op (a.eval x)) h (by simp [execOp]) h2 (aun_sound (ev_rel h x) h1)
  case convert src ty x =>
    have hx := ev_rel h x
    unfold aconv at ha
    split at ha
    · rename_i bs d hbs
      rw [hbs] at hx
      cases hc : cvB P src ty
      · rw [hc] at ha
        simp only [cond_false] at ha
        obtain ⟨z, h1, h2⟩ := v_some ha
        exact does_val (m := convert src ty (a.eval x)) h (by simp [execOp]) h2 (acv_sound hx h1)
      · rw [hc] at ha
        simp only [cond_true] at ha
        exact does_mem (m := convert src ty (a.eval x)) (by simp [execOp]) (acvB_sound h hx ha)
    · rename_i n off len cap hbs
      rw [hbs] at hx
      obtain ⟨z, h1, h2⟩ := v_some ha
      exact does_val (m := convert src ty (a.eval x)) h (by simp [execOp]) h2 (acvS_sound h.hp hx h1)
    · obtain ⟨z, h1, h2⟩ := v_some ha
      exact does_val (m := convert src ty (a.eval x)) h (by simp [execOp]) h2 (acv_sound hx h1)
  case load t x =>
    obtain ⟨z, h1, h2⟩ := v_some ha
    exact does_val (m := Instr.loadAt t (a.eval x)) h (by simp [execOp]) h2 (aload_sound h.hp (ev_rel h x) h1)
  case store t x y =>
    cases dst with
    | some d => cases ha
    | none =>
      obtain ⟨w', h1, h2, h3, h4⟩ := astore_sound h (ev_rel h x) (ev_rel h y) ha
      exact ⟨.skip, w', g, by simp [execOp, h1], .inr ⟨rfl, h2⟩, h3, h4⟩
  case fieldAddr t x f =>
    obtain ⟨z, h1, h2⟩ := v_some ha
    exact does_val (m := Instr.fieldAt t (a.eval x) f) h (by simp [execOp]) h2 (afield_sound (ev_rel h x) h1)
  case field t x f =>
    obtain ⟨z, h1, h2⟩ := v_some ha
    exact does_val (m := Instr.field t (a.eval x) f) h (by simp [execOp]) h2 (afieldV_sound (ev_rel h x) h1)
  case indexAddr t x i =>
    obtain ⟨z, h1, h2⟩ := v_some ha
    exact does_val (m := Instr.indexAt t (a.eval x) (a.eval i)) h (by simp [execOp]) h2 (aindex_sound (ev_rel h x) (ev_rel h i) h1)
  case index t x i =>
    obtain ⟨z, h1, h2⟩ := v_some ha
    exact does_val (m := Instr.index t (a.eval x) (a.eval i)) h (by simp [execOp]) h2 (aindexV_sound (ev_rel h x) (ev_rel h i) h1)
  case slice t x lo hi mx =>
    obtain ⟨z, h1, h2⟩ := v_some ha
    exact does_val (m := Instr.sliceAt t (a.eval x) (lo.map a.eval) (hi.map a.eval) (mx.map a.eval)) h (by simp [execOp]) h2 (aslice_sound (ev_rel h x) (relO_map h lo) (relO_map h hi) (relO_map h mx) h1)
  case extract x i =>
    obtain ⟨z, h1, h2⟩ := v_some ha
    exact does_val (m := Instr.extract (a.eval x) i) h (by simp [execOp]) h2 (aext_sound (ev_rel h x) h1)
  case makeFunc fn f c =>
    refine does_val (m := Instr.makeFunc fn (f.map a.eval) (c.map a.eval)) h (by simp [execOp]) ha ⟨.func fn (f.map a.eval) (c.map a.eval), by simp [Instr.makeFunc], .func (by simp) (by simp) (fun j x hj => ?_) (fun j x hj => ?_)⟩
    all_goals
      simp only [List.getElem?_map, Option.map_eq_some_iff] at hj
      obtain ⟨y, h1, rfl⟩ := hj
      rw [Array.getElem?_toList] at h1
      rw [Array.getD_eq_getD_getElem?, Array.getElem?_map, h1]
      exact ev_rel h y
  case makeInterface t x =>
    obtain ⟨z, h1, h2⟩ := v_some ha
    exact does_val (m := Instr.makeInterface t (a.eval x)) h (by simp [execOp]) h2 (amkif_sound (ev_rel h x) h1)
  case box e x =>
    cases dst with
    | none => cases ha
    | some d => exact does_mem (m := Instr.box e (a.eval x)) (by simp [execOp]) (abox_sound h (ev_rel h x) ha)
  case alloc t =>
    cases dst with
    | none => cases ha
    | some d => exact does_mem (m := Instr.alloc t true (.tuple #[])) (by simp [execOp]) (aalloc_sound h ha)
  case build t ps =>
    obtain ⟨z, h1, h2⟩ := v_some ha
    obtain ⟨p1, p2⟩ := parts_rel h ps
    exact does_val (m := Instr.build t (ps.map fun (i, x) => (i, a.eval x))) h (by simp [execOp]) h2 (abuild_sound p1 p2 h1)
  case buildSlice t n ps =>
    cases dst with
    | none => cases ha
    | some d =>
      simp only at ha
      cases hd : ltb d s.n
      · rw [hd] at ha; cases ha
      · rw [hd] at ha
        simp only [cond_true] at ha
        split at ha
        · rename_i y hy
          simp only [Option.some.injEq] at ha; subst ha
          obtain ⟨p1, p2⟩ := parts_rel h ps
          exact does_mem (m := Instr.buildSlice t n (ps.map fun (i, x) => (i, a.eval x))) (by simp [execOp]) (abuildS_sound h (Nat.le_of_ble_eq_true hd) p1 p2 hy)
        · cases ha
  case range t x =>
    cases dst with
    | none => cases ha
    | some d => exact does_mem (m := Instr.range t (a.eval x)) (by simp [execOp]) (arange_sound h (ev_rel h x) ha)
  case next x b =>
    cases b with
    | false => cases ha
    | true =>
      cases dst with
      | none => cases ha
      | some d => exact does_mem (m := Instr.next (a.eval x) true type) (by simp [execOp]) (anext_sound h (ev_rel h x) ha)
  case call c =>
    obtain ⟨callee, args, ats⟩ := c
    cases callee with
    | builtin b =>
      simp only [abuiltin] at ha
      have hargs : ∀ l : List Operand, args.toList = l → args = l.toArray := fun l e => by rw [← e]
      split at ha
      · rename_i t0 t1 x y d hts hxs
        have hat : ats = #[t0, t1] := by rw [← Array.toArray_toList (xs := ats), hts]
        subst hat
        rcases hA : args.toList with _ | ⟨o0, _ | ⟨o1, _ | ⟨o2, r⟩⟩⟩ <;> rw [hA] at hxs <;> simp only [List.map_nil, List.map_cons, List.cons.injEq, reduceCtorEq, and_false, and_true] at hxs
        obtain ⟨rfl, rfl⟩ := hxs
        have := hargs _ hA
        subst this
        exact does_mem (m := Builtin.append_ #[t0, t1] type #[a.eval o0, a.eval o1]) (by simp [execOp, resolve, invoke, builtin]) (aappend_sound h (ev_rel h o0) (ev_rel h o1) ha)
      · rename_i t x hts hxs
        have hat : ats = #[t] := by rw [← Array.toArray_toList (xs := ats), hts]
        subst hat
        rcases hA : args.toList with _ | ⟨o0, _ | ⟨o1, r⟩⟩ <;> rw [hA] at hxs <;> simp only [List.map_nil, List.map_cons, List.cons.injEq, reduceCtorEq, and_false, and_true] at hxs
        subst hxs
        have := hargs _ hA
        subst this
        obtain ⟨z, h1, h2⟩ := v_some ha
        exact does_val (m := Builtin.len_ #[t] type #[a.eval o0]) h (by simp [execOp, resolve, invoke, builtin]) h2 (alen_sound (ev_rel h o0) h1)
      · rename_i x y hxs
        rcases hA : args.toList with _ | ⟨o0, _ | ⟨o1, _ | ⟨o2, r⟩⟩⟩ <;> rw [hA] at hxs <;> simp only [List.map_nil, List.map_cons, List.cons.injEq, reduceCtorEq, and_false, and_true] at hxs
        obtain ⟨rfl, rfl⟩ := hxs
        have := hargs _ hA
        subst this
        obtain ⟨z, h1, h2⟩ := v_some ha
        exact does_val (m := Builtin.min_ ats type #[a.eval o0, a.eval o1]) h (by simp [execOp, resolve, invoke, builtin]) h2 ((minmax_sound (ev_rel h o0) (ev_rel h o1)).1 h1)
      · rename_i x y hxs
        rcases hA : args.toList with _ | ⟨o0, _ | ⟨o1, _ | ⟨o2, r⟩⟩⟩ <;> rw [hA] at hxs <;> simp only [List.map_nil, List.map_cons, List.cons.injEq, reduceCtorEq, and_false, and_true] at hxs
        obtain ⟨rfl, rfl⟩ := hxs
        have := hargs _ hA
        subst this
        obtain ⟨z, h1, h2⟩ := v_some ha
        exact does_val (m := Builtin.max_ ats type #[a.eval o0, a.eval o1]) h (by simp [execOp, resolve, invoke, builtin]) h2 ((minmax_sound (ev_rel h o0) (ev_rel h o1)).2 h1)
      · cases ha
    | _ => cases ha
  all_goals cases ha
end Go.Wl

