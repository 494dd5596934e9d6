/- Values and memory told without addresses: operations in any order. -/
import Derived.Test.YthmiekppdhmbiaaWlJ
import Derived.Orders
set_option linter.unusedVariables false
set_option linter.unusedSimpArgs false
namespace Go.Wl
variable {P : Program}

/-- Operations that change nothing. -/
def isPure : Op → Bool
  | .move _ | .assign _ | .pick _ _ _ | .nilCheck _ | .binOp _ _ _ _ _ | .unOp _ _ _ | .convert _ _ _ | .load _ _ | .fieldAddr _ _ _ | .field _ _ _ | .indexAddr _ _ _ | .index _ _ _ | .slice _ _ _ _ _ | .extract _ _ | .makeFunc _ _ _ | .makeInterface _ _ | .build _ _ => true
  | .call c => (match c.callee with
    | .builtin .len | .builtin .min | .builtin .max => true
    | _ => false)
  | _ => false
def acvP (P : Program) (src ty : TypeId) (x : AV) : Option AV :=
  match x with
  | .slc _ _ _ _ => none
  | .d (.str bs) => bif cvB P src ty then none else acv P src ty (.d (.str bs))
  | x => acv P src ty x
def abval (P : Program) (b : Builtin) (ts : List TypeId) (xs : List AV) : Option AV :=
  match b, ts, xs with
  | .len, [t], [x] => alen P t x
  | .min, _, [x, y] => aminmax false x y
  | .max, _, [x, y] => aminmax true x y
  | _, _, _ => none
/-- What such an operation yields. -/
def aval (P : Program) (op : Op) (s : St) : Option AV :=
  match op with
  | .move x => some (s.ev x)
  | .assign x => some (s.ev x)
  | .pick c a b => apick (s.ev c) (s.ev a) (s.ev b)
  | .nilCheck x => ank (s.ev x)
  | .binOp op t x y _ => abin P op t x y (s.ev x) (s.ev y)
  | .unOp op _ x => aun op (s.ev x)
  | .convert src ty x => acvP P src ty (s.ev x)
  | .load t x => aload P t s (s.ev x)
  | .fieldAddr t x f => afield P t f (s.ev x)
  | .field t x f => afieldV P t f (s.ev x)
  | .indexAddr t x i => aindex2 P t (s.ev x) (s.ev i)
  | .index t x i => aindexV2 P t (s.ev x) (s.ev i)
  | .slice t x lo hi mx => aslice2 P t (s.ev x) (lo.map s.ev) (hi.map s.ev) (mx.map s.ev)
  | .extract x i => aext (s.ev x) i
  | .makeFunc fn f c => some (.func fn (f.toList.map s.ev) (c.toList.map s.ev))
  | .makeInterface t x => amkif P t (s.ev x)
  | .build t ps => abuild P t (ps.toList.map fun p => (p.1, s.ev p.2))
  | .call c => (match c.callee with
    | .builtin b => abval P b c.argTypes.toList (c.args.toList.map s.ev)
    | _ => none)
  | _ => none

theorem aload_congr {t : TypeId} {s s' : St} {x : AV} (h : s'.hp = s.hp) : aload P t s' x = aload P t s x := by
  unfold aload; rw [h]
theorem aval_congr {op : Op} {s s' : St} (hh : s'.hp = s.hp) (h : ∀ x ∈ op.operands, s'.ev x = s.ev x) : aval P op s' = aval P op s := by
  have pairs : ∀ ps : Array (Nat × Operand), (∀ x ∈ ps.toList.map (·.2), s'.ev x = s.ev x) → (ps.toList.map fun p => (p.1, s'.ev p.2)) = (ps.toList.map fun p => (p.1, s.ev p.2)) := fun ps hp =>
    List.map_congr_left fun p hm => by rw [hp p.2 (List.mem_map.2 ⟨p, hm, rfl⟩)]
  have optm : ∀ x : Option Operand, (∀ y ∈ x.toArray, s'.ev y = s.ev y) → x.map s'.ev = x.map s.ev := fun x hx => by
    cases x with
    | none => rfl
    | some y => simp only [Option.map_some]; rw [hx y (by simp)]
  cases op <;> simp only [Op.operands] at h <;> simp only [aval]
  case build t ps => rw [pairs ps fun x hx => h x (by simpa using hx)]
  case makeFunc fn f c =>
    rw [List.map_congr_left (l := f.toList) fun x hx => h x (by simp at hx; simp [hx]), List.map_congr_left (l := c.toList) fun x hx => h x (by simp at hx; simp [hx])]
  case slice t x lo hi mx =>
    rw [h x (by simp), optm lo fun y hy => h y (by simp only [Array.mem_append]; exact .inl (.inl (.inr hy))), optm hi fun y hy => h y (by simp only [Array.mem_append]; exact .inl (.inr hy)), optm mx fun y hy => h y (by simp only [Array.mem_append]; exact .inr hy)]
  case call c =>
    split
    · rw [List.map_congr_left (l := c.args.toList) fun x hx => h x (by simp only [Call.operands, Array.mem_append]; exact .inr (by simpa using hx))]
    · rfl
  case load t x => rw [h x (by simp)]; exact aload_congr hh
  all_goals first
    | rfl
    | (simp_all; done)

theorem aval_sound {o : Oper} {g : G} {s : St} {y : AV} {a : Act} {w : World} (h : Sim g s a w) (ha : aval P o.op s = some y) : ∃ u, (execOp a.eval o).run P w = .ok (.value u) w ∧ Rel g w u y := by
  have go : ∀ {m : Sem Value}, execOp a.eval o = (do pure (.value (← m))) → (∃ u, m.run P w = .ok u w ∧ Rel g w u y) → ∃ u, (execOp a.eval o).run P w = .ok (.value u) w ∧ Rel g w u y := fun hm ⟨u, h1, h2⟩ => ⟨u, by rw [hm]; simp [h1], h2⟩
  obtain ⟨dst, op, type, pos, after, guard⟩ := o
  cases op <;> simp only [aval] at ha
  case binOp op t x y yt =>
    have h1 := ha
    exact go (m := do eqGuard op t x y (a.eval x) (a.eval y); binOp op t (a.eval x) (a.eval y)) (by simp [execOp]) (abin_sound (ev_rel h x) (ev_rel h y) (fun v e => by rw [e]; rfl) h1)
  case unOp op t x =>
    have h1 := ha
    exact go (m := Op.unary op (a.eval x)) (by simp [execOp]) (aun_sound (ev_rel h x) h1)
  case load t x =>
    have h1 := ha
    exact go (m := Instr.loadAt t (a.eval x)) (by simp [execOp]) (aload_sound h.hp (ev_rel h x) h1)
  case fieldAddr t x f =>
    have h1 := ha
    exact go (m := Instr.fieldAt t (a.eval x) f) (by simp [execOp]) (afield_sound (ev_rel h x) h1)
  case field t x f =>
    have h1 := ha
    exact go (m := Instr.field t (a.eval x) f) (by simp [execOp]) (afieldV_sound (ev_rel h x) h1)
  case extract x i =>
    have h1 := ha
    exact go (m := Instr.extract (a.eval x) i) (by simp [execOp]) (aext_sound (ev_rel h x) h1)
  case makeInterface t x =>
    have h1 := ha
    exact go (m := Instr.makeInterface t (a.eval x)) (by simp [execOp]) (amkif_sound (ev_rel h x) h1)
  case move x => simp only [Option.some.injEq] at ha; subst ha; exact go (m := pure (a.eval x)) (by simp [execOp]) ⟨a.eval x, by simp, ev_rel h x⟩
  case assign x => simp only [Option.some.injEq] at ha; subst ha; exact go (m := pure (a.eval x)) (by simp [execOp]) ⟨a.eval x, by simp, ev_rel h x⟩
  case pick c x y =>
    have h1 := ha
    have hc := ev_rel h c
    have hx := ev_rel h x
    have hy := ev_rel h y
    refine go (m := do pure (if ← asBool (a.eval c) then a.eval x else a.eval y)) (by simp [execOp]) ?_
    generalize a.eval x = vx at *
    generalize a.eval y = vy at *
    generalize a.eval c = vc at *
    generalize s.ev c = cc at h1 hc
    unfold apick at h1
    split at h1
    · rename_i t
      cases hc with
      | d hc =>
        cases hc
        refine ⟨if t then vx else vy, by simp [asBool], ?_⟩
        split at h1
        · rename_i p q hp hq
          simp only [Option.some.injEq] at h1; subst h1
          rw [hp] at hx
          rw [hq] at hy
          cases t
          · exact hy
          · exact hx
        · simp only [Option.some.injEq] at h1; subst h1
          cases t
          · exact hy
          · exact hx
    · cases h1
  case nilCheck x =>
    have h1 := ha
    have hx := ev_rel h x
    refine go (m := pure (a.eval x)) ?_ ⟨a.eval x, by simp, ?_⟩
    · simp only [execOp]
      generalize a.eval x = v at hx
      generalize s.ev x = y at h1 hx
      unfold ank at h1
      split at h1
      · cases hx; rfl
      · cases hx with
        | d hx => cases hx; rfl
      · cases hx; rfl
      · cases hx with
        | d hx => cases hx; rfl
      · cases h1
    · generalize s.ev x = y at h1 hx
      unfold ank at h1
      split at h1 <;> first | (simp only [Option.some.injEq] at h1; subst h1; exact hx) | cases h1
  case indexAddr t x i =>
    rw [aindex2_eq] at ha
    exact go (m := Instr.indexAt t (a.eval x) (a.eval i)) (by simp [execOp]) (aindex_sound (ev_rel h x) (ev_rel h i) ha)
  case index t x i =>
    rw [aindexV2_eq] at ha
    exact go (m := Instr.index t (a.eval x) (a.eval i)) (by simp [execOp]) (aindexV_sound (ev_rel h x) (ev_rel h i) ha)
  case slice t x lo hi mx =>
    rw [aslice2_eq] at ha
    exact go (m := Instr.sliceAt t (a.eval x) (lo.map a.eval) (hi.map a.eval) (mx.map a.eval)) (by simp [execOp]) (aslice_sound (ev_rel h x) (relO_map h lo) (relO_map h hi) (relO_map h mx) ha)
  case build t ps =>
    obtain ⟨p1, p2⟩ := parts_rel h ps
    exact go (m := Instr.build t (ps.map fun (i, x) => (i, a.eval x))) (by simp [execOp]) (abuild_sound p1 p2 ha)
  case makeFunc fn f c =>
    simp only [Option.some.injEq] at ha; subst ha
    refine go (m := Instr.makeFunc fn (f.map a.eval) (c.map a.eval)) (by simp [execOp]) ⟨.func fn (f.map a.eval) (c.map a.eval), by simp [Instr.makeFunc], .func (by simp) (by simp) (fun j x hj => ?_) (fun j x hj => ?_)⟩
    all_goals
      simp only [List.getElem?_map, Option.map_eq_some_iff] at hj
      obtain ⟨y, h1, rfl⟩ := hj
      rw [Array.getElem?_toList] at h1
      rw [Array.getD_eq_getD_getElem?, Array.getElem?_map, h1]
      exact ev_rel h y
  case convert src ty x =>
    have hx := ev_rel h x
    unfold acvP at ha
    split at ha
    · cases ha
    · rename_i bs hbs
      rw [hbs] at hx
      cases hc : cvB P src ty
      · rw [hc] at ha
        simp only [cond_false] at ha
        exact go (m := convert src ty (a.eval x)) (by simp [execOp]) (acv_sound hx ha)
      · rw [hc] at ha
        cases ha
    · exact go (m := convert src ty (a.eval x)) (by simp [execOp]) (acv_sound hx ha)
  case call c =>
    obtain ⟨callee, args, ats⟩ := c
    cases callee with
    | builtin b =>
      simp only [abval] at ha
      have hargs : ∀ l : List Operand, args.toList = l → args = l.toArray := fun l e => by rw [← e]
      split at ha
      · rename_i t x hts hxs
        have hat : ats = #[t] := by rw [← Array.toArray_toList (xs := ats), hts]
        subst hat
        rcases hA : args.toList with _ | ⟨o0, _ | ⟨o1, r⟩⟩ <;> rw [hA] at hxs <;> simp only [List.map_nil, List.map_cons, List.cons.injEq, reduceCtorEq, and_false, and_true] at hxs
        subst hxs
        have := hargs _ hA
        subst this
        exact go (m := Builtin.len_ #[t] type #[a.eval o0]) (by simp [execOp, resolve, invoke, builtin]) (alen_sound (ev_rel h o0) ha)
      · rename_i x y hxs
        rcases hA : args.toList with _ | ⟨o0, _ | ⟨o1, _ | ⟨o2, r⟩⟩⟩ <;> rw [hA] at hxs <;> simp only [List.map_nil, List.map_cons, List.cons.injEq, reduceCtorEq, and_false, and_true] at hxs
        obtain ⟨rfl, rfl⟩ := hxs
        have := hargs _ hA
        subst this
        exact go (m := Builtin.min_ ats type #[a.eval o0, a.eval o1]) (by simp [execOp, resolve, invoke, builtin]) ((minmax_sound (ev_rel h o0) (ev_rel h o1)).1 ha)
      · rename_i x y hxs
        rcases hA : args.toList with _ | ⟨o0, _ | ⟨o1, _ | ⟨o2, r⟩⟩⟩ <;> rw [hA] at hxs <;> simp only [List.map_nil, List.map_cons, List.cons.injEq, reduceCtorEq, and_false, and_true] at hxs
        obtain ⟨rfl, rfl⟩ := hxs
        have := hargs _ hA
        subst this
        exact go (m := Builtin.max_ ats type #[a.eval o0, a.eval o1]) (by simp [execOp, resolve, invoke, builtin]) ((minmax_sound (ev_rel h o0) (ev_rel h o1)).2 ha)
      · cases ha
    | _ => cases ha
  all_goals cases ha
end Go.Wl

