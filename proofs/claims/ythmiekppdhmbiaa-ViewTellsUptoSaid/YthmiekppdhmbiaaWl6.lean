/- Values and memory told without addresses: numbers, texts, comparisons, conversions. -/
import Derived.Test.YthmiekppdhmbiaaWl5
import Derived.Laws.BytesArg
set_option linter.unusedVariables false
set_option linter.unusedSimpArgs false
namespace Go.Wl
variable {P : Program}

def aint (op : BinOp) (k : IntKind) (a b : Int) : Option D :=
  match op with
  | .add => some (.int k (k.wrap (a + b)))
  | .sub => some (.int k (k.wrap (a - b)))
  | .mul => some (.int k (k.wrap (a * b)))
  | .quo => if b = 0 then none else some (.int k (k.wrap (a.tdiv b)))
  | .rem => if b = 0 then none else some (.int k (a.tmod b))
  | .and => some (.int k (bits .and k a b))
  | .or => some (.int k (bits .or k a b))
  | .xor => some (.int k (bits .xor k a b))
  | .andNot => some (.int k (bits .andNot k a b))
  | .eql => some (.bool (a == b))
  | .neq => some (.bool (a != b))
  | .lss => some (.bool (decide (a < b)))
  | .leq => some (.bool (decide (a ≤ b)))
  | .gtr => some (.bool (decide (a > b)))
  | .geq => some (.bool (decide (a ≥ b)))
  | .shl => none
  | .shr => none
def ashift (op : BinOp) (k : IntKind) (a b : Int) : Option D :=
  if b < 0 then none else match op with
  | .shl => some (.int k (k.wrap (a * 2 ^ (min b.toNat k.bits))))
  | .shr => some (.int k (a.fdiv (2 ^ (min b.toNat k.bits))))
  | _ => none
def astr (op : BinOp) (a b : List UInt8) : Option D :=
  match op with
  | .add => if ((a.length + b.length : Nat) : Int) > 9223372036854775807 then none else some (.str (a ++ b))
  | .eql => some (.bool (a == b))
  | .neq => some (.bool !(a == b))
  | .lss => some (.bool (Op.bytesLess a b))
  | .leq => some (.bool (Op.bytesLess a b || a == b))
  | .gtr => some (.bool !(Op.bytesLess a b || a == b))
  | .geq => some (.bool !(Op.bytesLess a b))
  | _ => none
inductive TK where
  | bool | ptr | func | iface | slice | str | arr (n : Nat) | other
/-- A type's kind. -/
def tk (P : Program) (t : TypeId) : TK :=
  match P.underlying t with
  | some .bool => .bool
  | some (.pointer _) => .ptr
  | some (.func ..) => .func
  | some (.interface _) => .iface
  | some (.slice _) => .slice
  | some .string => .str
  | some (.array n _) => .arr n
  | _ => .other
/-- Whether a value is nil, by its kind. -/
def nilOf (k : TK) (x : AV) : Option Bool :=
  match k with
  | .ptr => (match x with
    | .ptr _ _ => some false
    | .d (.cptr _) => some false
    | .d .nilp => some true
    | _ => none)
  | .func => (match x with
    | .func _ _ _ => some false
    | .d (.func _ _ _) => some false
    | .d .nilfunc => some true
    | _ => none)
  | .iface => (match x with
    | .d (.iface _ _) => some false
    | .d .nilif => some true
    | _ => none)
  | .slice => (match x with
    | .nils => some true
    | _ => none)
  | _ => none
def isConstNil (k : TK) (x : Operand) : Bool := match k, x with
  | .iface, .const .nilIface => true
  | .func, .const .nilFunc => true
  | .ptr, .const (.pointer none) => true
  | .slice, .const (.slice none _ _) => true
  | _, _ => false
def abin (P : Program) (op : BinOp) (t : TypeId) (ox oy : Operand) (x y : AV) : Option AV :=
  match x, y with
  | .d (.int k a), .d (.int k' b) => (match op with
    | .shl => (ashift .shl k a b).map .d
    | .shr => (ashift .shr k a b).map .d
    | op => if k = k' then (aint op k a b).map .d else none)
  | .d (.str a), .d (.str b) => (astr op a b).map .d
  | .d (.bool a), .d (.bool b) => (match tk P t, op with
    | .bool, .eql => some (.d (.bool (a == b)))
    | .bool, .neq => some (.d (.bool (!(a == b))))
    | _, _ => none)
  | x, y => bif isConstNil (tk P t) oy then (match nilOf (tk P t) x, op with
      | some b, .eql => some (.d (.bool b))
      | some b, .neq => some (.d (.bool (!b)))
      | _, _ => none)
    else none

def TK.ok (k : TK) (u : Option TypeDesc) : Prop := match k with
  | .bool => u = some .bool
  | .ptr => ∃ e, u = some (.pointer e)
  | .func => ∃ a b c, u = some (.func a b c)
  | .iface => ∃ m, u = some (.interface m)
  | .slice => ∃ e, u = some (.slice e)
  | .str => u = some .string
  | .arr n => ∃ e, u = some (.array n e)
  | .other => True
theorem tk_spec {t : TypeId} {k : TK} (h : tk P t = k) : k.ok (P.underlying t) := by
  subst h
  unfold tk
  generalize P.underlying t = u
  rcases u with _ | d
  · trivial
  · cases d <;> simp [TK.ok]
theorem aint_run (op : BinOp) (k : IntKind) (a b : Int) (t : TypeId) (ox oy : Operand) (w : World) {d : D} (h : aint op k a b = some d) :
    ∃ u, (do eqGuard op t ox oy (.int k a) (.int k b); binOp op t (.int k a) (.int k b) : Sem Value).run P w = .ok u w ∧ ∀ S, Rep S w u d := by
  rw [eqGuard_at_int]
  cases op <;> simp only [aint, Option.some.injEq] at h
  case quo =>
    split at h
    · cases h
    · rename_i hb
      simp only [Option.some.injEq] at h; subst h
      exact ⟨_, by simp only [binOp, Op.intDiv, hb]; simp; try rfl, fun S => .int⟩
  case rem =>
    split at h
    · cases h
    · rename_i hb
      simp only [Option.some.injEq] at h; subst h
      exact ⟨_, by simp only [binOp, Op.intDiv, hb]; simp; try rfl, fun S => .int⟩
  case shl => cases h
  case shr => cases h
  all_goals subst h
  case eql => exact ⟨_, by simp [binOp, Op.intCmp]; try rfl, fun S => .bool⟩
  case neq => exact ⟨_, by simp [binOp, Op.intCmp]; try rfl, fun S => .bool⟩
  case lss => exact ⟨_, by simp [binOp, Op.intCmp]; try rfl, fun S => .bool⟩
  case leq => exact ⟨_, by simp [binOp, Op.intCmp]; try rfl, fun S => .bool⟩
  case gtr => exact ⟨_, by simp [binOp, Op.intCmp]; try rfl, fun S => .bool⟩
  case geq => exact ⟨_, by simp [binOp, Op.intCmp]; try rfl, fun S => .bool⟩
  case add => exact ⟨_, by simp [binOp, Op.intArith]; try rfl, fun S => .int⟩
  case sub => exact ⟨_, by simp [binOp, Op.intArith]; try rfl, fun S => .int⟩
  case mul => exact ⟨_, by simp [binOp, Op.intArith]; try rfl, fun S => .int⟩
  case and => exact ⟨_, by simp only [binOp_and, intBits_and]; try rfl, fun S => .int⟩
  case or => exact ⟨_, by simp only [binOp_or, intBits_or]; try rfl, fun S => .int⟩
  case xor => exact ⟨_, by simp only [binOp_xor, intBits_xor]; try rfl, fun S => .int⟩
  case andNot => exact ⟨_, by simp only [binOp_andNot, intBits_andNot]; try rfl, fun S => .int⟩
theorem ashift_run (op : BinOp) (k k' : IntKind) (a b : Int) (t : TypeId) (ox oy : Operand) (w : World) {d : D} (h : ashift op k a b = some d) (ho : op = .shl ∨ op = .shr) :
    ∃ u, (do eqGuard op t ox oy (.int k a) (.int k' b); binOp op t (.int k a) (.int k' b) : Sem Value).run P w = .ok u w ∧ ∀ S, Rep S w u d := by
  rw [eqGuard_at_int]
  unfold ashift at h
  split at h
  · cases h
  · rename_i hb
    rcases ho with rfl | rfl <;> simp only [Option.some.injEq] at h <;> subst h <;> exact ⟨_, by simp [binOp, Op.shift, hb]; try rfl, fun S => .int⟩
theorem astr_run (op : BinOp) (a b : ByteArray) (t : TypeId) (ox oy : Operand) (w : World) {d : D} (h : astr op a.data.toList b.data.toList = some d) :
    ∃ u, (do eqGuard op t ox oy (.string a) (.string b); binOp op t (.string a) (.string b) : Sem Value).run P w = .ok u w ∧ ∀ S, Rep S w u d := by
  rw [eqGuard_at_string]
  have e1 := ByteArray.toList_eq a
  have e2 := ByteArray.toList_eq b
  cases op <;> simp only [astr, Option.some.injEq] at h
  case add =>
    split at h
    · cases h
    · rename_i hb
      simp only [Option.some.injEq] at h; subst h
      have l1 : a.data.toList.length = a.size := Array.length_toList
      have l2 : b.data.toList.length = b.size := Array.length_toList
      rw [l1, l2] at hb
      refine ⟨.string (a ++ b), ?_, fun S => ?_⟩
      · have hb' : ¬ (9223372036854775807 < ((a.size : Int) + (b.size : Int))) := by omega
        simp [binOp, Op.stringOp, hb']
      · have e : a.data.toList ++ b.data.toList = (a ++ b).data.toList := by simp
        rw [e]; exact .str
  case eql => subst h; exact ⟨_, by simp [binOp, Op.stringOp, e1, e2]; try rfl, fun S => .bool⟩
  case neq => subst h; exact ⟨_, by simp [binOp, Op.stringOp, e1, e2]; try rfl, fun S => .bool⟩
  case lss => subst h; exact ⟨_, by simp [binOp, Op.stringOp, e1, e2]; try rfl, fun S => .bool⟩
  case leq => subst h; exact ⟨_, by simp [binOp, Op.stringOp, e1, e2]; try rfl, fun S => .bool⟩
  case gtr => subst h; exact ⟨_, by simp [binOp, Op.stringOp, e1, e2]; try rfl, fun S => .bool⟩
  case geq => subst h; exact ⟨_, by simp [binOp, Op.stringOp, e1, e2]; try rfl, fun S => .bool⟩
  all_goals cases h

/-- What a constant stands for. -/
def ofConst : Value → AV
  | .int k n => .d (.int k n)
  | .bool b => .d (.bool b)
  | .string s => .d (.str s.data.toList)
  | .pointer none => .d .nilp
  | .nilFunc => .d .nilfunc
  | .nilIface => .d .nilif
  | .slice none 0 0 => .nils
  | .func fn f c => bif f.isEmpty && c.isEmpty then .d (.func fn [] []) else .any
  | .agg cs => .agg (cs.toList.map ofConst0)
  | _ => .any
where ofConst0 : Value → AV
  | .int k n => .d (.int k n)
  | .bool b => .d (.bool b)
  | .string s => .d (.str s.data.toList)
  | .pointer none => .d .nilp
  | .nilFunc => .d .nilfunc
  | .nilIface => .d .nilif
  | .slice none 0 0 => .nils
  | _ => .any
theorem ofConst0_rel (g : G) (w : World) (v : Value) : Rel g w v (ofConst.ofConst0 v) := by
  unfold ofConst.ofConst0
  split
  · exact .d .int
  · exact .d .bool
  · exact .d .str
  · exact .d .nilp
  · exact .d .nilfunc
  · exact .d .nilif
  · exact .nils
  · exact .any
theorem ofConst_rel (g : G) (w : World) (v : Value) : Rel g w v (ofConst v) := by
  unfold ofConst
  split
  · exact .d .int
  · exact .d .bool
  · exact .d .str
  · exact .d .nilp
  · exact .d .nilfunc
  · exact .d .nilif
  · exact .nils
  · rename_i fn f c
    cases h : f.isEmpty && c.isEmpty
    · exact .any
    · simp only [Bool.and_eq_true, Array.isEmpty_iff] at h
      obtain ⟨rfl, rfl⟩ := h
      exact .d (.func rfl rfl (by simp) (by simp))
  · rename_i cs
    refine .agg (by simp) fun j c hj => ?_
    simp only [List.getElem?_map, Option.map_eq_some_iff] at hj
    obtain ⟨v, h1, rfl⟩ := hj
    rw [Array.getElem?_toList] at h1
    have : cs.getD j undef = v := by simp [h1]
    rw [this]; exact ofConst0_rel g w v
  · exact .any

theorem eql_run (t : TypeId) (x y : Value) (b : Bool) (w : World) (h1 : binOp .eql t x y = (do let q ← Op.equal t x y; pure (.bool q))) (h2 : binOp .neq t x y = (do let q ← Op.equal t x y; pure (.bool !q)))
    (h : ∀ d, (Op.equalIn (d + 1) t x y).run P w = .ok b w) : (binOp .eql t x y).run P w = .ok (.bool b) w ∧ (binOp .neq t x y).run P w = .ok (.bool !b) w := by
  have h' : (Op.equal t x y).run P w = .ok b w := h 9999
  rw [h1, h2]
  simp [h']
theorem nil_run {g : G} {w : World} {vx : Value} {x : AV} {t : TypeId} {ox oy : Operand} {b : Bool} (hx : Rel g w vx x) (hc : isConstNil (tk P t) oy = true) (hb : nilOf (tk P t) x = some b) :
    ∃ vy, oy = .const vy ∧ (do eqGuard .eql t ox oy vx vy; binOp .eql t vx vy : Sem Value).run P w = .ok (.bool b) w ∧ (do eqGuard .neq t ox oy vx vy; binOp .neq t vx vy : Sem Value).run P w = .ok (.bool !b) w := by
  generalize hk : tk P t = k at hc hb
  have hs := tk_spec hk
  cases k with
  | ptr =>
    obtain ⟨e, hu⟩ := hs
    unfold isConstNil at hc
    split at hc
    · simp_all
    · simp_all
    · refine ⟨_, rfl, ?_⟩
      have hv : ∃ a, vx = .pointer a ∧ b = a.isNone := by
        cases hx with
        | ptr => simp only [nilOf, Option.some.injEq] at hb; exact ⟨_, rfl, hb.symm⟩
        | d hx => cases hx <;> simp only [nilOf, Option.some.injEq, reduceCtorEq] at hb <;> exact ⟨_, rfl, hb.symm⟩
        | _ => simp [nilOf] at hb
      obtain ⟨a, rfl, rfl⟩ := hv
      rw [eqGuard_at_pointer, eqGuard_at_pointer]
      have := eql_run (P := P) t (.pointer a) (.pointer none) a.isNone w (by cases a <;> rfl) (by cases a <;> rfl) (fun d => by cases a <;> simp [Op.equalIn, run_underlying hu])
      simpa using this
    · simp_all
    · cases hc
  | func =>
    obtain ⟨e1, e2, e3, hu⟩ := hs
    unfold isConstNil at hc
    split at hc
    · simp_all
    · refine ⟨_, rfl, ?_⟩
      have hv : (vx = .nilFunc ∧ b = true) ∨ ∃ f a c, vx = .func f a c ∧ b = false := by
        cases hx with
        | func => simp only [nilOf, Option.some.injEq] at hb; exact .inr ⟨_, _, _, rfl, hb.symm⟩
        | d hx => cases hx <;> simp only [nilOf, Option.some.injEq, reduceCtorEq] at hb <;> first | exact .inl ⟨rfl, hb.symm⟩ | exact .inr ⟨_, _, _, rfl, hb.symm⟩
        | _ => simp [nilOf] at hb
      rcases hv with ⟨rfl, rfl⟩ | ⟨f, a, c, rfl, rfl⟩
      · rw [eqGuard_at_nilFunc, eqGuard_at_nilFunc]
        simpa using eql_run (P := P) t .nilFunc .nilFunc true w rfl rfl (fun d => by simp [Op.equalIn, run_underlying hu])
      · rw [eqGuard_at_func, eqGuard_at_func]
        simpa using eql_run (P := P) t (.func f a c) .nilFunc false w rfl rfl (fun d => by simp [Op.equalIn, run_underlying hu])
    · simp_all
    · simp_all
    · cases hc
  | iface =>
    obtain ⟨m, hu⟩ := hs
    unfold isConstNil at hc
    split at hc
    · refine ⟨_, rfl, ?_⟩
      have hv : (vx = .nilIface ∧ b = true) ∨ ∃ f a, vx = .iface f a ∧ b = false := by
        cases hx with
        | d hx => cases hx <;> simp only [nilOf, Option.some.injEq, reduceCtorEq] at hb <;> first | exact .inl ⟨rfl, hb.symm⟩ | exact .inr ⟨_, _, rfl, hb.symm⟩
        | _ => simp [nilOf] at hb
      rcases hv with ⟨rfl, rfl⟩ | ⟨f, a, rfl, rfl⟩
      · rw [eqGuard_nil_constR, eqGuard_nil_constR]
        simpa using eql_run (P := P) t .nilIface .nilIface true w rfl rfl (fun d => by simp [Op.equalIn, run_underlying hu])
      · rw [eqGuard_at_iface, eqGuard_at_iface]
        simpa using eql_run (P := P) t (.iface f a) .nilIface false w rfl rfl (fun d => by simp [Op.equalIn, run_underlying hu])
    · simp_all
    · simp_all
    · simp_all
    · cases hc
  | slice =>
    obtain ⟨e, hu⟩ := hs
    unfold isConstNil at hc
    split at hc
    · simp_all
    · simp_all
    · simp_all
    · refine ⟨_, rfl, ?_⟩
      cases hx with
      | nils =>
        simp only [nilOf, Option.some.injEq] at hb; subst hb
        rw [eqGuard_at_slice, eqGuard_at_slice]
        simpa using eql_run (P := P) t (.slice none 0 0) (.slice none _ _) true w rfl rfl (fun d => by simp [Op.equalIn, run_underlying hu])
      | _ => simp [nilOf] at hb
    · cases hc
  | _ => simp [isConstNil] at hc

theorem abin_sound {g : G} {w : World} {vx vy : Value} {x y z : AV} {op : BinOp} {t : TypeId} {ox oy : Operand} (hx : Rel g w vx x) (hy : Rel g w vy y) (hcy : ∀ v, oy = .const v → vy = v)
    (h : abin P op t ox oy x y = some z) : ∃ u, (do eqGuard op t ox oy vx vy; binOp op t vx vy : Sem Value).run P w = .ok u w ∧ Rel g w u z := by
  unfold abin at h
  split at h
  · rename_i k a k' b
    cases hx with
    | d hx =>
      cases hx
      cases hy with
      | d hy =>
        cases hy
        split at h
        · simp only [Option.map_eq_some_iff] at h
          obtain ⟨d, h1, rfl⟩ := h
          obtain ⟨u, h2, h3⟩ := ashift_run (P := P) .shl k k' a b t ox oy w h1 (.inl rfl)
          exact ⟨u, h2, .d (h3 _)⟩
        · simp only [Option.map_eq_some_iff] at h
          obtain ⟨d, h1, rfl⟩ := h
          obtain ⟨u, h2, h3⟩ := ashift_run (P := P) .shr k k' a b t ox oy w h1 (.inr rfl)
          exact ⟨u, h2, .d (h3 _)⟩
        · split at h
          · rename_i e
            subst e
            simp only [Option.map_eq_some_iff] at h
            obtain ⟨d, h1, rfl⟩ := h
            obtain ⟨u, h2, h3⟩ := aint_run (P := P) _ k a b t ox oy w h1
            exact ⟨u, h2, .d (h3 _)⟩
          · cases h
  · rename_i a b
    cases hx with
    | d hx =>
      cases hx
      cases hy with
      | d hy =>
        cases hy
        simp only [Option.map_eq_some_iff] at h
        obtain ⟨d, h1, rfl⟩ := h
        obtain ⟨u, h2, h3⟩ := astr_run (P := P) op _ _ t ox oy w h1
        exact ⟨u, h2, .d (h3 _)⟩
  · rename_i a b
    cases hx with
    | d hx =>
      cases hx
      cases hy with
      | d hy =>
        cases hy
        rw [eqGuard_at_bool]
        split at h
        · rename_i hk
          simp only [Option.some.injEq] at h; subst h
          have := tk_spec hk
          exact ⟨_, by simp only [Sem.run_bind, Sem.run_pure, Result.andThen_ok]; exact run_eql_bool w t a b this, .d .bool⟩
        · rename_i hk
          simp only [Option.some.injEq] at h; subst h
          have := tk_spec hk
          exact ⟨_, by simp only [Sem.run_bind, Sem.run_pure, Result.andThen_ok]; exact run_neq_bool w t a b this, .d .bool⟩
        · cases h
  · rename_i x y _ _ _
    cases hc : isConstNil (tk P t) oy
    · rw [hc] at h; cases h
    · rw [hc] at h
      simp only [cond_true] at h
      split at h
      · rename_i b hb
        simp only [Option.some.injEq] at h; subst h
        obtain ⟨v, e, h1, h2⟩ := nil_run (P := P) (ox := ox) hx hc hb
        rw [hcy v e]
        exact ⟨_, h1, .d .bool⟩
      · rename_i b hb
        simp only [Option.some.injEq] at h; subst h
        obtain ⟨v, e, h1, h2⟩ := nil_run (P := P) (ox := ox) hx hc hb
        rw [hcy v e]
        exact ⟨_, h2, .d .bool⟩
      · cases h
end Go.Wl

