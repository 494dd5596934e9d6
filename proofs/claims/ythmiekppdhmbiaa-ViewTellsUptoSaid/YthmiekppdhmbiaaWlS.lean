/- Values and memory told without addresses: calls of functions that only answer. -/
import Derived.Test.YthmiekppdhmbiaaWlR
set_option linter.unusedVariables false
set_option linter.unusedSimpArgs false
namespace Go.Wl
variable {P : Program}

/-- The answer is this; no memory comes back. -/
abbrev isD (x : D) : AV → Hp → Prop := fun r hp => r = .d x ∧ hp = []
def toDs : List AV → Option (List D)
  | [] => some []
  | x :: r => (match x.toD, toDs r with
    | some y, some l => some (y :: l)
    | _, _ => none)
theorem toDs_asArgs : ∀ {l : List AV} {ds : List D}, toDs l = some ds → asArgs (l.map fun _ => true) l = some (ds.map .d)
  | [], ds, h => by simp only [toDs, Option.some.injEq] at h; subst h; rfl
  | x :: r, ds, h => by
    simp only [toDs] at h
    split at h
    · rename_i y l h1 h2
      simp only [Option.some.injEq] at h; subst h
      simp only [List.map_cons, asArgs, h1, toDs_asArgs h2]
    · cases h
theorem after_pure {s s' : St} {d : Option Nat} {x : D} (hs : s.setv d (.d x) = some s') : afterOk s [] d (.d x) [] = true ∧ s.after [] d (.d x) [] = s' := by
  unfold St.setv at hs
  split at hs
  · rename_i t
    cases ht : ltb t s.n
    · rw [ht] at hs; cases hs
    · rw [ht] at hs
      simp only [cond_true, Option.some.injEq] at hs; subst hs
      refine ⟨?_, rfl⟩
      simp [afterOk, ht, hpAll, AV.refs, hpRefs]
  · simp only [Option.some.injEq] at hs; subst hs
    refine ⟨?_, rfl⟩
    simp [afterOk, hpAll, AV.refs, hpRefs]
theorem pcall {K : List Nat} {d : Option Nat} {f : Operand} {args : Array Operand} {ats : Array TypeId} {r : List Sop} {s s' : St} {k : St → Prop} {id : FuncId} {first caps : List D} {ds : List D} {x : D}
    (hf : s.ev f = .d (.func (.func id) first caps)) (ha : toDs (first.map .d ++ args.toList.map s.ev ++ caps.map .d) = some ds) (hC : Con P id (ds.map .d) [] (isD x)) (hs : s.setv d (.d x) = some s')
    (hk : WRs P K r s' k) : WRs P K (⟨d, .call { callee := .value f, args, argTypes := ats }, none⟩ :: r) s k := by
  refine RUN_call (first := first) (caps := caps) _ [] (fun q hq => by rw [← hq]; exact hf) (fun q hq => by rw [← hq]; exact toDs_asArgs ha) (fun q hq => hq.symm) hC ?_
  rintro r' hp' ⟨rfl, rfl⟩
  obtain ⟨h1, h2⟩ := after_pure hs
  exact ⟨h1, fun q hq => by rw [← hq, h2]; exact hk⟩
theorem setv_hp {s s' : St} {d : Option Nat} {v : AV} (hs : s.setv d v = some s') : s'.hp = s.hp := by
  unfold St.setv at hs
  split at hs
  · rename_i t
    cases ht : ltb t s.n
    · rw [ht] at hs; cases hs
    · rw [ht] at hs
      simp only [cond_true, Option.some.injEq] at hs; subst hs; rfl
  · simp only [Option.some.injEq] at hs; subst hs; rfl
theorem RUN_pcall {K : List Nat} {d : Option Nat} {f : Operand} {args : Array Operand} {ats : Array TypeId} {r : List Sop} {s s' : St} {k : St → Prop} {id : FuncId} {first caps : List D} {ds : List D} {x : D}
    (hf : ∀ q, s.ev f = q → q = .d (.func (.func id) first caps)) (ha : ∀ q, toDs (first.map .d ++ args.toList.map s.ev ++ caps.map .d) = q → q = some ds) (hC : Con P id (ds.map .d) [] (isD x)) (hs : ∀ q, s.setv d (.d x) = q → q = some s')
    (hk : WRs P K r s' k) : WRs P K (⟨d, .call { callee := .value f, args, argTypes := ats }, none⟩ :: r) s k := pcall (hf _ rfl) (ha _ rfl) hC (hs _ rfl) hk
theorem RUND_pcall {K DD : List Nat} {m p : Bool} {d : Option Nat} {f : Operand} {args : Array Operand} {ats : Array TypeId} {r : List (Sop × Kd)} {s s' : St} {k : St → Prop} {id : FuncId} {first caps : List D} {ds : List D} {x : D}
    (hf : ∀ q, s.ev f = q → q = .d (.func (.func id) first caps)) (ha : ∀ q, toDs (first.map .d ++ args.toList.map s.ev ++ caps.map .d) = q → q = some ds) (hC : Con P id (ds.map .d) [] (isD x)) (hs : ∀ q, s.setv d (.d x) = q → q = some s')
    (hD : ∀ q, sameOn DD s' s = q → q) (hk : WDs P K (m && p) r s' k) : WDs P K m ((⟨d, .call { callee := .value f, args, argTypes := ats }, none⟩, .ch DD p) :: r) s k :=
  RUND_call (pcall (hf _ rfl) (ha _ rfl) hC (hs _ rfl) ⟨hD _ rfl, fun _ => setv_hp (hs _ rfl), hk⟩)
theorem RUN_pcallB {K : List Nat} {d : Option Nat} {f : Operand} {args : Array Operand} {ats : Array TypeId} {r : List Sop} {s : St} {s' : Bool → St} {k : St → Prop} {id : FuncId} {first caps : List D} {ds : List D} {x : Bool}
    (hf : ∀ q, s.ev f = q → q = .d (.func (.func id) first caps)) (ha : ∀ q, toDs (first.map .d ++ args.toList.map s.ev ++ caps.map .d) = q → q = some ds) (hC : Con P id (ds.map .d) [] (isD (.bool x))) (hs : ∀ b q, s.setv d (.d (.bool b)) = q → q = some (s' b))
    (hk : ∀ b, x = b → WRs P K r (s' b) k) : WRs P K (⟨d, .call { callee := .value f, args, argTypes := ats }, none⟩ :: r) s k := pcall (hf _ rfl) (ha _ rfl) hC (hs x _ rfl) (hk x rfl)
theorem RUND_pcallB {K DD : List Nat} {m p : Bool} {d : Option Nat} {f : Operand} {args : Array Operand} {ats : Array TypeId} {r : List (Sop × Kd)} {s : St} {s' : Bool → St} {k : St → Prop} {id : FuncId} {first caps : List D} {ds : List D} {x : Bool}
    (hf : ∀ q, s.ev f = q → q = .d (.func (.func id) first caps)) (ha : ∀ q, toDs (first.map .d ++ args.toList.map s.ev ++ caps.map .d) = q → q = some ds) (hC : Con P id (ds.map .d) [] (isD (.bool x))) (hs : ∀ b q, s.setv d (.d (.bool b)) = q → q = some (s' b))
    (hD : ∀ b q, sameOn DD (s' b) s = q → q) (hk : ∀ b, x = b → WDs P K (m && p) r (s' b) k) : WDs P K m ((⟨d, .call { callee := .value f, args, argTypes := ats }, none⟩, .ch DD p) :: r) s k :=
  RUND_call (pcall (hf _ rfl) (ha _ rfl) hC (hs x _ rfl) ⟨hD x _ rfl, fun _ => setv_hp (hs x _ rfl), hk x rfl⟩)
/-- What a function answers, of data. -/
abbrev Pu (P : Program) (f : FuncId) (ds : List D) (x : D) : Prop := Con P f (ds.map .d) [] (isD x)
theorem Pu.ofWC {f : FuncId} {fn : Func} {cc : Cc} {ds : List D} {x : D} (hf : P.funcs[f]? = some fn) (hb : bodyC fn = cc) (hne : cc ≠ .bad) (hcb : cbl P f = true) {n : Nat} (hn : fn.ntmps = n) {rs : List ResultVar} (hrs : fn.results.toList = rs) (hlen : ds.length ≤ n)
    (h : WC P [] cc { n := n, tm := numb 0 (ds.map .d), hp := [] } (retQ P rs [] (isD x))) : Pu P f ds x := by
  subst hn; subst hrs
  exact Con.ofWC hf hb hne hcb (by simpa using hlen) [] rfl h
end Go.Wl

