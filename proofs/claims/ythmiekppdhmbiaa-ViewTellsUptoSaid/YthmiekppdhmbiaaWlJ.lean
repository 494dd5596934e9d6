/- Values and memory told without addresses: code in a brief form. -/
import Derived.Test.YthmiekppdhmbiaaWlI
set_option linter.unusedVariables false
set_option linter.unusedSimpArgs false
namespace Go.Wl
variable {P : Program}

def ob {α β : Type} (x : Option α) (f : α → Option β) : Option β := match x with
  | some y => f y
  | none => none
def opt {α : Type} (x : Option α) (k : α → Prop) : Prop := match x with
  | some y => k y
  | none => False
theorem opt_some {α : Type} (x : α) (k : α → Prop) : opt (some x) k = k x := rfl
theorem opt_none {α : Type} (k : α → Prop) : opt none k = False := rfl
theorem opt_ob {α β : Type} (x : Option α) (f : α → Option β) (k : β → Prop) : opt (ob x f) k = opt x fun y => opt (f y) k := by cases x <;> rfl
theorem opt_if {α : Type} (c : Prop) [Decidable c] (x : Option α) (k : α → Prop) : opt (if c then x else none) k = (c ∧ opt x k) := by by_cases h : c <;> simp [h, opt]
theorem opt_ifn {α : Type} (c : Prop) [Decidable c] (x : Option α) (k : α → Prop) : opt (if c then none else x) k = (¬ c ∧ opt x k) := by by_cases h : c <;> simp [h, opt]
theorem opt_if2 {α : Type} (c : Prop) [Decidable c] (x y : α) (k : α → Prop) : opt (if c then some x else some y) k = ((c → k x) ∧ (¬ c → k y)) := by by_cases h : c <;> simp [h, opt]
theorem opt_map {α β : Type} (x : Option α) (f : α → β) (k : β → Prop) : opt (x.map f) k = opt x fun y => k (f y) := by cases x <;> rfl
theorem opt_bif {α : Type} (c : Bool) (x : Option α) (k : α → Prop) : opt (bif c then x else none) k = (c = true ∧ opt x k) := by cases c <;> simp [opt]
theorem opt_of {α : Type} {x : Option α} {y : α} (h : x = some y) {k : α → Prop} (hk : k y) : opt x k := by rw [h]; exact hk

def aindex2 (P : Program) (t : TypeId) (x : AV) (i : AV) : Option AV :=
  match i with
  | .d (.int _ i) => (match el P t with
    | some (_, k) => (match x with
      | .slc n off len _ => if 0 ≤ i ∧ i < len then some (.ptr n (off + i.toNat * k)) else none
      | x => ob x.list fun xs => if 0 ≤ i then ob xs[i.toNat]? fun y => bif Nat.beq y.width k then some (.d (.cptr y)) else none else none)
    | none => (match arr P t with
      | some (n, k, b) => (match x with
        | .ptr m off => if 0 ≤ i ∧ i < n then some (.ptr m (off + i.toNat * k)) else none
        | .d (.cptr (.agg cs)) => if 0 ≤ i ∧ i < n then ob (D.part cs (i.toNat * k) k b) fun y => if b || y.one then some (.d (.cptr y)) else none else none
        | _ => none)
      | none => none))
  | _ => none
theorem aindex2_eq (t : TypeId) (x i : AV) : aindex2 P t x i = aindex P t x i := by
  cases i with
  | d i =>
    cases i with
    | int kd i =>
      simp only [aindex2, aindex]
      cases el P t with
      | some p =>
        obtain ⟨pe, pk⟩ := p
        have key : ∀ xs : List D, (if 0 ≤ i then ob xs[i.toNat]? fun y => bif Nat.beq y.width pk then some (AV.d (.cptr y)) else none else none) = (if 0 ≤ i then (match xs[i.toNat]? with
          | some y => bif Nat.beq y.width pk then some (AV.d (.cptr y)) else none
          | none => none) else none) := fun xs => by cases xs[i.toNat]? <;> rfl
        cases x with
        | slc => rfl
        | d y => cases y <;> first | rfl | exact key _
        | nils => exact key _
        | lit xs => exact key _
        | sl n xs => exact key _
        | rs xs ys => exact key _
        | _ => rfl
      | none =>
        cases arr P t with
        | none => rfl
        | some p =>
          obtain ⟨pn, pk, pb⟩ := p
          cases x with
          | d y =>
            cases y with
            | cptr y =>
              cases y with
              | agg cs =>
                simp only
                cases D.part cs (i.toNat * pk) pk pb <;> rfl
              | _ => rfl
            | _ => rfl
          | _ => rfl
    | _ => rfl
  | _ => rfl
def aindexV2 (P : Program) (t : TypeId) (x i : AV) : Option AV :=
  match i with
  | .d (.int _ i) => (match x with
    | .d (.str bs) => bif isStr P t then (if 0 ≤ i then ob bs[i.toNat]? fun c => some (.d (u8 c)) else none) else none
    | x => (match x.aggOf, arr P t with
      | some cs, some (n, k, b) => if 0 ≤ i ∧ i < n then AV.part cs (i.toNat * k) k b else none
      | _, _ => none))
  | _ => none
theorem aindexV2_eq (t : TypeId) (x i : AV) : aindexV2 P t x i = aindexV P t x i := by
  cases i with
  | d i =>
    cases i with
    | int kd i =>
      simp only [aindexV2, aindexV]
      cases x with
      | d y =>
        cases y with
        | str bs =>
          simp only
          cases bs[i.toNat]? <;> rfl
        | _ => rfl
      | _ => rfl
    | _ => rfl
  | _ => rfl
/-- A bound of a slice. -/
def ibnd2 (x : Option AV) (d : Nat) (k : Nat → Option AV) : Option AV :=
  match x with
  | none => k d
  | some (.d (.int _ i)) => if 0 ≤ i then k i.toNat else none
  | _ => none
theorem ibnd2_eq (x : Option AV) (d : Nat) (k : Nat → Option AV) : ibnd2 x d k = ob (ibnd x d) k := by
  unfold ibnd2 ibnd ob
  split
  · rfl
  · rename_i k' i
    by_cases h : 0 ≤ i <;> simp [h]
  · rename_i h1 h2
    split
    · rename_i y hy
      split at hy
      · exact absurd rfl h1
      · exact absurd rfl (h2 _ _)
      · cases hy
    · rfl
def asliceL2 (P : Program) (t : TypeId) (x : AV) (lo hi mx : Option AV) : Option AV :=
  match x.list, el P t with
  | some xs, some (_, k) => ibnd2 lo 0 fun l => ibnd2 hi xs.length fun h =>
      if l ≤ h ∧ h ≤ xs.length ∧ (Nat.beq l 0 || xs.all fun x => Nat.beq x.width k) = true then (match mx with
        | some y => ibnd2 (some y) 0 fun m => if m = h ∧ hi.isSome = true then some (.lit ((xs.take h).drop l)) else none
        | none => (match hi, x with
          | none, .sl n xs => some (.sl n (xs.drop l))
          | none, .lit xs => some (.lit (xs.drop l))
          | _, _ => some (.d (.list ((xs.take h).drop l))))) else none
  | _, _ => none
theorem asliceL2_eq (t : TypeId) (x : AV) (lo hi mx : Option AV) : asliceL2 P t x lo hi mx = asliceL P t x lo hi mx := by
  unfold asliceL2 asliceL
  cases h1 : x.list with
  | none => rfl
  | some xs =>
    cases h2 : el P t with
    | none => rfl
    | some p =>
      simp only [ibnd2_eq]
      cases hl : ibnd lo 0 with
      | none => rfl
      | some l =>
        cases hh : ibnd hi xs.length with
        | none => rfl
        | some h =>
          cases mx with
          | none => rfl
          | some y =>
            simp only [ob]
            cases ibnd (some y) 0 <;> rfl
def aslice2 (P : Program) (t : TypeId) (x : AV) (lo hi mx : Option AV) : Option AV :=
  match x with
  | .d (.str bs) => bif isStr P t && mx.isNone then ibnd2 lo 0 fun l => ibnd2 hi bs.length fun h => if l ≤ h ∧ h ≤ bs.length then some (.d (.str ((bs.take h).drop l))) else none else none
  | .slc n off len cap => aslice P t (.slc n off len cap) lo hi mx
  | .ptr n off => aslice P t (.ptr n off) lo hi mx
  | .rs xs ys => aslice P t (.rs xs ys) lo hi mx
  | x => asliceL2 P t x lo hi mx
theorem aslice2_eq (t : TypeId) (x : AV) (lo hi mx : Option AV) : aslice2 P t x lo hi mx = aslice P t x lo hi mx := by
  unfold aslice2
  split
  · unfold aslice
    simp only [ibnd2_eq]
    cases isStr P t && mx.isNone
    · rfl
    · simp only [cond_true]
      rename_i bs
      cases hl : ibnd lo 0 with
      | none => rfl
      | some l =>
        cases hh : ibnd hi bs.length with
        | none => rfl
        | some h => rfl
  · rfl
  · rfl
  · rfl
  · rename_i h1 h2 h3 h4
    rw [asliceL2_eq]
    unfold aslice
    split
    · rename_i bs; exact absurd rfl (h1 bs)
    all_goals first | rfl | exact absurd rfl (h2 _ _ _ _) | exact absurd rfl (h3 _ _) | exact absurd rfl (h4 _ _)
/-- What an operation does, with the tests to the fore. -/
def aopS (P : Program) (d : Option Nat) (op : Op) (s : St) : Option St :=
  match op with
  | .move x => s.setv d (s.ev x)
  | .assign x => s.setv d (s.ev x)
  | .pick c a b => ob (apick (s.ev c) (s.ev a) (s.ev b)) (s.setv d)
  | .nilCheck x => ob (ank (s.ev x)) (s.setv d)
  | .binOp op t x y _ => ob (abin P op t x y (s.ev x) (s.ev y)) (s.setv d)
  | .unOp op _ x => ob (aun op (s.ev x)) (s.setv d)
  | .load t x => ob (aload P t s (s.ev x)) (s.setv d)
  | .fieldAddr t x f => ob (afield P t f (s.ev x)) (s.setv d)
  | .field t x f => ob (afieldV P t f (s.ev x)) (s.setv d)
  | .indexAddr t x i => ob (aindex2 P t (s.ev x) (s.ev i)) (s.setv d)
  | .index t x i => ob (aindexV2 P t (s.ev x) (s.ev i)) (s.setv d)
  | .slice t x lo hi mx => ob (aslice2 P t (s.ev x) (lo.map s.ev) (hi.map s.ev) (mx.map s.ev)) (s.setv d)
  | .extract x i => ob (aext (s.ev x) i) (s.setv d)
  | op => aop P ⟨d, op, 0, "", #[], none⟩ s
theorem aopS_eq (o : Oper) (s : St) : aopS P o.dst o.op s = aop P o s := by
  obtain ⟨d, op, ty, pos, after, guard⟩ := o
  cases op <;> first
    | rfl
    | (simp only [aopS, aop, aindex2_eq, aindexV2_eq, aslice2_eq]; split <;> (rename_i h; rw [h]; rfl))

structure Sop where
  d : Option Nat
  op : Op
  g : Option (Nat × Bool)
def copS (ops : Array Oper) : List Oper → Option (List Sop)
  | [] => some []
  | o :: r => (match o.guard, copS ops r with
    | none, some l => some (⟨o.dst, o.op, none⟩ :: l)
    | some (j, w), some l => (match (ops[j]?).bind (·.dst) with
      | some t => some (⟨o.dst, o.op, some (t, w)⟩ :: l)
      | none => none)
    | _, none => none)
def stepS (P : Program) (K : List Nat) (d : Option Nat) (op : Op) (s : St) (k : St → Prop) : Prop :=
  match op with
  | .call { callee := .value f, args, .. } => callK P K d s (s.ev f) (args.toList.map s.ev) k
  | op => match aopS P d op s with
    | some s' => k s'
    | none => nilK P d op s k
def boolOf (x : AV) (k : Bool → Prop) : Prop := match x with
  | .d (.bool b) => k b
  | _ => False
def gdOf (x : Option Bool) (k : Bool → Prop) : Prop := match x with
  | some b => k b
  | none => False
/-- The operations of a region, in order. -/
def WRs (P : Program) (K : List Nat) : List Sop → St → (St → Prop) → Prop
  | [], s, k => k s
  | ⟨d, op, none⟩ :: r, s, k => stepS P K d op s fun s' => WRs P K r s' k
  | ⟨d, op, some (t, w)⟩ :: r, s, k => gdOf (gdv (s.get t) w) fun b => (b = true → stepS P K d op s fun s' => WRs P K r s' k) ∧ (b = false → opt (s.setv d und) fun s' => WRs P K r s' k)
theorem stepS_K {K : List Nat} {o : Oper} {s : St} {k : St → Prop} (h : stepS P K o.dst o.op s k) : stepK P K o s k := by
  have hgen : (match aopS P o.dst o.op s with | some s' => k s' | none => nilK P o.dst o.op s k) → (match aop P o s with | some s' => k s' | none => nilK P o.dst o.op s k) := fun h => by rw [aopS_eq] at h; exact h
  obtain ⟨d, op, ty, pos, after, guard⟩ := o
  cases op
  case call c =>
    obtain ⟨callee, args, ats⟩ := c
    cases callee
    case value f => exact h
    all_goals exact hgen h
  all_goals exact hgen h
theorem nilK_mono {d : Option Tmp} {op : Op} {s : St} {k k' : St → Prop} (h : nilK P d op s k) (hk : ∀ s, k s → k' s) : nilK P d op s k' := by
  unfold nilK at *
  split at h
  · split at h
    · intro b hb
      have := h b hb
      split at this
      · exact hk _ this
      · exact this.elim
    · exact h
  · exact h
theorem stepK_mono {K : List Nat} {o : Oper} {s : St} {k k' : St → Prop} (h : stepK P K o s k) (hk : ∀ s, k s → k' s) : stepK P K o s k' := by
  have hgen : (match aop P o s with | some s' => k s' | none => nilK P o.dst o.op s k) → (match aop P o s with | some s' => k' s' | none => nilK P o.dst o.op s k') := fun h => by
    split at h
    · exact hk _ h
    · exact nilK_mono h hk
  have hCall : ∀ d s f args, Call P K d s f args k → Call P K d s f args k' := fun d s f args ⟨h1, h2⟩ => ⟨h1, fun g vals w a next a1 a2 a3 a4 a5 => h2 g vals w a next a1 a2 a3 a4 fun s' g' a' w' q1 q2 q3 => a5 s' g' a' w' q1 q2 (hk s' q3)⟩
  obtain ⟨d, op, ty, pos, after, guard⟩ := o
  cases op
  case call c =>
    obtain ⟨callee, args, ats⟩ := c
    cases callee
    case value f =>
      simp only [stepK, callK] at h ⊢
      split at h
      · exact hCall _ _ _ _ h
      · exact hCall _ _ _ _ h
      · exact h
    all_goals exact hgen h
  all_goals exact hgen h
theorem WR_mono {K : List Nat} {ops : Array Oper} : ∀ {l : List Oper} {s : St} {k k' : St → Prop}, (∀ s, k s → k' s) → WR P K ops l s k → WR P K ops l s k'
  | [], s, k, k', hk, h => hk s h
  | o :: r, s, k, k', hk, h => by
    simp only [WR] at h ⊢
    split at h
    · exact stepK_mono h fun s' h' => WR_mono hk h'
    · split at h
      · refine ⟨fun e => stepK_mono (h.1 e) fun s' h' => WR_mono hk h', fun e => ?_⟩
        have := h.2 e
        split at this
        · exact WR_mono hk this
        · exact this
      · exact h
theorem WRs_WR {K : List Nat} {ops : Array Oper} : ∀ {l : List Oper} {sl : List Sop} {s : St} {k : St → Prop}, copS ops l = some sl → WRs P K sl s k → WR P K ops l s k
  | [], sl, s, k, hc, h => by simp only [copS, Option.some.injEq] at hc; subst hc; exact h
  | o :: r, sl, s, k, hc, h => by
    have hm : ∀ {s : St} {k k' : St → Prop}, stepK P K o s k → (∀ s, k s → k' s) → stepK P K o s k' := fun h hk => stepK_mono h hk
    simp only [copS] at hc
    split at hc
    · rename_i l h1 h2
      simp only [Option.some.injEq] at hc; subst hc
      simp only [WR, h1]
      exact hm (stepS_K h) fun s' hs' => WRs_WR h2 hs'
    · rename_i j w l h1 h2
      split at hc
      · rename_i t ht
        simp only [Option.some.injEq] at hc; subst hc
        simp only [WR, h1]
        simp only [WRs, gdOf] at h
        split at h
        · rename_i b hb
          have hg : gd ops s j w = some b := by simp only [gd, ht]; exact hb
          rw [hg]
          refine ⟨fun e => hm (stepS_K (h.1 e)) fun s' hs' => WRs_WR h2 hs', fun e => ?_⟩
          have := h.2 e
          unfold opt at this
          split at this
          · rename_i s' hs'; rw [hs']; exact WRs_WR h2 this
          · exact this.elim
        · exact h.elim
      · cases hc
    · cases hc

end Go.Wl

