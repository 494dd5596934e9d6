/- Values and memory told without addresses: contracts out of walks, and back. -/
import Derived.Test.YthmiekppdhmbiaaWlH
set_option linter.unusedVariables false
set_option linter.unusedSimpArgs false
namespace Go.Wl
variable {P : Program}

def numb : Nat → List AV → List (Nat × AV)
  | _, [] => []
  | n, x :: r => (n, x) :: numb (n + 1) r
theorem lk_numb : ∀ (l : List AV) (n i : Nat), lk (numb n l) i = if n ≤ i then l[i - n]? else none
  | [], n, i => by simp [numb, lk]
  | x :: r, n, i => by
    rw [numb, lk_cons, lk_numb r]
    by_cases h1 : n = i
    · subst h1; simp
    · rw [if_neg h1]
      by_cases h2 : n ≤ i
      · rw [if_pos (by omega), if_pos h2, show i - n = (i - (n + 1)) + 1 by omega]; simp
      · rw [if_neg (by omega), if_neg h2]
def initSt (n : Nat) (args : List AV) (hp : Hp) : St := { n := n, tm := numb 0 args, hp := hp }

def arets (P : Program) (s : St) : List ResultVar → Option (List AV)
  | [] => some []
  | .tmp t :: r => (match arets P s r with
    | some l => some (s.get t :: l)
    | none => none)
  | .cell a t :: r => (match aload P t s (s.get a), arets P s r with
    | some y, some l => some (y :: l)
    | _, _ => none)
def aret (P : Program) (s : St) (rs : List ResultVar) : Option AV :=
  match arets P s rs with
  | some [x] => some x
  | some l => some (.tup l)
  | none => none
theorem aload_ptr {g : G} {w : World} {v : Value} {x y : AV} {s : St} {t : TypeId} (hv : Rel g w v x) (h : aload P t s x = some y) : ∃ ad, v = .pointer (some ad) := by
  cases hv with
  | ptr => exact ⟨_, rfl⟩
  | d hd => cases hd <;> first | exact ⟨_, rfl⟩ | simp [aload] at h
  | _ => simp [aload] at h
theorem arets_run {g : G} {s : St} {a : Act} {w : World} (h : Sim g s a w) (f : ResultVar → Sem Value) (f1 : ∀ t, f (.tmp t) = pure (a.tmps.getD t undef)) (f2 : ∀ b t, f (.cell b t) = do loadVar t (← asAddr (a.tmps.getD b undef))) : ∀ {rs : List ResultVar} {l : List AV}, arets P s rs = some l → ∃ vs : List Value, vs.length = l.length ∧ (∀ j x, l[j]? = some x → Rel g w (vs.getD j undef) x) ∧
    (rs.mapM f).run P w = .ok vs w
  | [], l, h1 => by simp only [arets, Option.some.injEq] at h1; subst h1; exact ⟨[], rfl, by simp, rfl⟩
  | .tmp t :: r, l, h1 => by
    simp only [arets] at h1
    split at h1
    · rename_i l' h2
      simp only [Option.some.injEq] at h1; subst h1
      obtain ⟨vs, q1, q2, q3⟩ := arets_run h f f1 f2 h2
      refine ⟨a.tmps.getD t undef :: vs, by simp [q1], fun j x hj => ?_, by simp only [List.mapM_cons, Sem.run_bind, f1, Sem.run_pure, Result.andThen_ok, q3]⟩
      cases j with
      | zero => simp at hj; subst hj; exact h.tm t
      | succ j => simpa [List.getD] using q2 j x (by simpa using hj)
    · cases h1
  | .cell b t :: r, l, h1 => by
    simp only [arets] at h1
    split at h1
    · rename_i y l' h2 h3
      simp only [Option.some.injEq] at h1; subst h1
      obtain ⟨vs, q1, q2, q3⟩ := arets_run h f f1 f2 h3
      obtain ⟨ad, had⟩ := aload_ptr (h.tm b) h2
      obtain ⟨u, hu, hr⟩ := aload_sound h.hp (h.tm b) h2
      rw [had] at hu
      refine ⟨u :: vs, by simp [q1], fun j x hj => ?_, ?_⟩
      · cases j with
        | zero => simp at hj; subst hj; exact hr
        | succ j => simpa [List.getD] using q2 j x (by simpa using hj)
      · simp only [Instr.loadAt, Instr.sureAddr, Sem.run_bind, Sem.run_pure, Result.andThen_ok] at hu
        simp only [List.mapM_cons, Sem.run_bind, f2, had, asAddr, Sem.run_pure, Result.andThen_ok, hu, q3]
    · cases h1
theorem aret_run {g : G} {s : St} {a : Act} {w : World} (h : Sim g s a w) {fn : Func} {x : AV} (hx : aret P s fn.results.toList = some x) : ∃ v, (results fn a.tmps).run P w = .ok v w ∧ Rel g w v x := by
  unfold aret at hx
  have hres : ∀ l, arets P s fn.results.toList = some l → ∃ vs : List Value, vs.length = l.length ∧ (∀ j x, l[j]? = some x → Rel g w (vs.getD j undef) x) ∧ (results fn a.tmps).run P w = .ok (if h : vs.toArray.size = 1 then vs.toArray[0] else .tuple vs.toArray) w := by
    intro l hl
    unfold results
    obtain ⟨vs, q1, q2, q3⟩ := arets_run (P := P) h (fun
      | .tmp t => pure (a.tmps.getD t undef)
      | .cell b t => do loadVar t (← asAddr (a.tmps.getD b undef))) (fun _ => rfl) (fun _ _ => rfl) hl
    refine ⟨vs, q1, q2, ?_⟩
    rw [Array.mapM_eq_mapM_toList]
    simp only [Sem.run_bind, Sem.run_map]
    erw [q3]
    rfl
  split at hx
  · rename_i y hl
    simp only [Option.some.injEq] at hx; subst hx
    obtain ⟨vs, q1, q2, q3⟩ := hres _ hl
    rcases vs with _ | ⟨v, _ | ⟨u, r⟩⟩
    · simp at q1
    · exact ⟨v, by rw [q3]; rfl, by simpa using q2 0 y rfl⟩
    · simp at q1
  · rename_i l hne hl
    simp only [Option.some.injEq] at hx; subst hx
    obtain ⟨vs, q1, q2, q3⟩ := hres _ hl
    have hn1 : ¬ vs.toArray.size = 1 := fun e => by
      simp only [List.size_toArray] at e
      rcases l with _ | ⟨x, _ | ⟨y, r⟩⟩
      · simp at q1; subst q1; simp at e
      · exact hne x rfl
      · simp at q1; omega
    rw [dif_neg hn1] at q3
    exact ⟨_, q3, .tup (by simp [q1]) fun j x hj => by simpa [List.getD] using q2 j x hj⟩
  · cases hx

def objNames (hp : Hp) : List Nat := (hp.map (·.1)).filter fun n => isObj (lk hp n)
/-- How a body ends: with these results, and this memory. -/
def retQ (P : Program) (rs : List ResultVar) (ns : List Nat) (R : AV → Hp → Prop) : Exit → St → Prop
  | .normal, s => ∃ r r', aret P s rs = some r ∧ (r' = r ∨ ∃ x, r.toD = some x ∧ r' = .d x) ∧ R r' (keepL s.hp ns)
  | .ret, s => ∃ r r', aret P s rs = some r ∧ (r' = r ∨ ∃ x, r.toD = some x ∧ r' = .d x) ∧ R r' (keepL s.hp ns)
  | _, _ => False
theorem Con.ofW {f : FuncId} {fn : Func} {c : Code} {args : List AV} {hp : Hp} {R : AV → Hp → Prop} (hf : P.funcs[f]? = some fn) (hb : fn.body = some c) (hcb : cbl P f = true) (hlen : args.length ≤ fn.ntmps) (ns : List Nat)
    (hns : (objNames hp).all (memb ns ·) = true) (h : W P (objNames hp) c (initSt fn.ntmps args hp) (retQ P fn.results.toList ns R)) : Con P f args hp R := by
  refine ⟨hcb, fun g vals w hl hr hh => ?_⟩
  have hki : KIn (objNames hp) hp := fun n hn => by
    simp only [objNames, List.mem_filter] at hn
    exact isObj_spec hn.2
  have hsim : Sim g (initSt fn.ntmps args hp) { tmps := vals.toArray ++ Array.replicate (fn.ntmps - vals.toArray.size) undef, defers := [] } w := by
    refine ⟨by simp [initSt]; omega, rfl, fun i => ?_, hh⟩
    unfold St.get initSt
    simp only [lk_numb, Nat.zero_le, if_true, Nat.sub_zero]
    cases hi : args[i]? with
    | none => exact .any
    | some x =>
      have h1 := hr i x hi
      have hlt := lt_of_get hi
      have : i < vals.length := by omega
      simp only [Array.getD_eq_getD_getElem?]
      rw [Array.getElem?_append_left (by simpa using this)]
      simpa [List.getD] using h1
  refine calls_of_wp hf hb (wp_mono (h g _ w hki hsim) ?_)
  have key : ∀ (s' : St) (g' : G) (a' : Act) (w' : World), Sim g' s' a' w' → To (objNames hp) g hp w g' s'.hp w' → (∃ r r', aret P s' fn.results.toList = some r ∧ (r' = r ∨ ∃ x, r.toD = some x ∧ r' = .d x) ∧ R r' (keepL s'.hp ns)) →
      a'.defers = [] ∧ ∃ v, (results fn a'.tmps).run P w' = .ok v w' ∧ ∃ v_1 r hp' g', Ending.returned v = .returned v_1 ∧ R r hp' ∧ Rel g' w' v_1 r ∧ SimH g' hp' w' ∧ Ev (Own g hp) (Own g' hp') g g' w w' ∧ Names g hp g' hp' := by
    rintro s' g' a' w' hs' ht ⟨r, r', h1, h2, h3⟩
    obtain ⟨v, q1, q2⟩ := aret_run hs' h1
    have hrv : Rel g' w' v r' := by
      rcases h2 with rfl | ⟨x, h4, rfl⟩
      · exact q2
      · exact .d (toD_rep q2 h4)
    obtain ⟨p1, p2⟩ := hs'.hp.less (hp' := keepL s'.hp ns) fun n ob hn => by
      rw [lk_keepL] at hn
      split at hn
      · exact hn
      · cases hn
    refine ⟨hs'.df, v, q1, v, r', keepL s'.hp ns, g', rfl, h3, hrv, p1, ht.ev.trans (Ev.world rfl rfl rfl rfl (fun _ _ => Iff.rfl) p2), fun n ob hn hnt => ?_⟩
    have hmem : n ∈ objNames hp := by
      simp only [objNames, List.mem_filter, List.mem_map]
      refine ⟨⟨(n, ob), lk_mem hn, rfl⟩, ?_⟩
      rw [hn]
      cases ob <;> first | rfl | exact absurd rfl (hnt _)
    obtain ⟨ob', h5, h6⟩ := ht.ki n hmem
    exact ⟨ht.ks n hmem, ob', by rw [lk_keepL, if_pos (List.all_eq_true.1 hns n hmem)]; exact h5, h6⟩
  rintro e a' w' ⟨s', g', h1, h2, h3⟩
  cases e with
  | normal => exact key s' g' a' w' h1 h2 h3
  | ret => exact key s' g' a' w' h1 h2 h3
  | _ => exact h3.elim

/-- A contract without memory of our own, as the kit tells it. -/
theorem Con.calls {f : FuncId} {args : List AV} {R : AV → Hp → Prop} (h : Con P f args [] R) (w : World) (ρ : Nat → Nat) (τ : Nat → Tl) (vals : List Value) (hl : vals.length = args.length)
    (hr : ∀ j x, args[j]? = some x → Rel ⟨fun b o => (w.cell? ⟨b, o, none⟩).isSome = true, ρ, τ⟩ w (vals.getD j undef) x) :
    Calls P f vals.toArray w fun e w' => ∃ v r hp' g', e = .returned v ∧ R r hp' ∧ Rel g' w' v r ∧ RowKit.Below w.heap.size w w' := by
  refine (h.2 ⟨fun b o => (w.cell? ⟨b, o, none⟩).isSome = true, ρ, τ⟩ vals w hl hr ⟨by simp [lk], by simp [Own, lk], by simp [lk], fun b o hs => Option.isSome_iff_exists.1 hs⟩).mono ?_
  rintro e w' ⟨v, r, hp', g', q1, q2, q3, q4, q5, q6⟩
  exact ⟨v, r, hp', g', q1, q2, q3, q5.os, q5.tape, q5.output, q5.size, fun k hk => q5.blk k hk fun f => by simp [Own, lk]⟩
/-- What the kit tells of a call that returns data, as a contract. -/
theorem Con.ofCalls {f : FuncId} {args : List AV} {x : D} (hcb : cbl P f = true) (h : ∀ (S : Nat → Nat → Prop) (w : World) (ρ : Nat → Nat) (τ : Nat → Tl) (vals : List Value), vals.length = args.length → (∀ j y, args[j]? = some y → Rel ⟨S, ρ, τ⟩ w (vals.getD j undef) y) →
      (∀ b o, S b o → ∃ v, w.cell? ⟨b, o, none⟩ = some v) →
      Calls P f vals.toArray w fun e w' => ∃ v, e = .returned v ∧ RowKit.Below w.heap.size w w' ∧ Rep (fun b o => S b o ∨ (w.heap.size ≤ b ∧ (w'.cell? ⟨b, o, none⟩).isSome = true)) w' v x) :
    Con P f args [] fun r hp' => r = .d x ∧ hp' = [] := by
  refine ⟨hcb, fun g vals w hl hr hh => ?_⟩
  refine (h g.S w g.ρ g.τ vals hl hr hh.ex).mono ?_
  rintro e w' ⟨v, rfl, hb, hrep⟩
  refine ⟨v, .d x, [], ⟨fun b o => g.S b o ∨ (w.heap.size ≤ b ∧ (w'.cell? ⟨b, o, none⟩).isSome = true), g.ρ, g.τ⟩, rfl, ⟨rfl, rfl⟩, .d hrep, ⟨by simp [lk], by simp [Own, lk], by simp [lk], fun b o hs => ?_⟩, ?_, fun n ob hn => by cases hn⟩
  · rcases hs with hs | ⟨_, hs⟩
    · obtain ⟨u, hu⟩ := hh.ex b o hs
      exact ⟨u, (World.cell?_of_block (w := w) (hb.block b (hh.lt hs))).trans hu⟩
    · exact Option.isSome_iff_exists.1 hs
  · refine ⟨hb.os, hb.tape, hb.output, hb.size, fun b hb' _ => hb.block b hb', fun b f hb' _ => World.cell?_of_block (w := w) (hb.block b hb'), fun b c e fr hc => ⟨c, (hb.block b (Array.getElem?_eq_some_iff.1 hc).1).trans hc, rfl⟩, fun b f hs => .inl hs, fun b f hs => ?_, fun b f ⟨n, ob, hn, _⟩ => by cases hn⟩
    rcases hs with hs | ⟨hs, _⟩
    · exact .inl hs
    · exact .inr (.inr hs)
end Go.Wl

