/- Values and memory told without addresses: contracts. -/
import Derived.Test.YtdeegjhnomdepaaWA
import Derived.Below
import Derived.Orders
set_option linter.unusedVariables false
set_option linter.unusedSimpArgs false
namespace Go.Wl
variable {P : Program}

/-- A contract: with these arguments, and this memory of ours, the call returns so. -/
def Con (P : Program) (f : FuncId) (args : List AV) (hp : Hp) (R : AV → Hp → Prop) : Prop :=
  cbl P f = true ∧ ∀ g (vals : List Value) w, vals.length = args.length → (∀ j x, args[j]? = some x → Rel g w (vals.getD j undef) x) → SimH g hp w →
    Calls P f vals.toArray w fun e w' => ∃ v r hp' g', e = .returned v ∧ R r hp' ∧ Rel g' w' v r ∧ SimH g' hp' w' ∧ Ev (Own g hp) (Own g' hp') g g' w w' ∧ Names g hp g' hp'
theorem Con.mono {f : FuncId} {args : List AV} {hp : Hp} {R R' : AV → Hp → Prop} (h : Con P f args hp R) (hr : ∀ r hp', R r hp' → R' r hp') : Con P f args hp R' :=
  ⟨h.1, fun g vals w h1 h2 h3 => (h.2 g vals w h1 h2 h3).mono fun e w' ⟨v, r, hp', g', q1, q2, q3⟩ => ⟨v, r, hp', g', q1, hr r hp' q2, q3⟩⟩

/-- Memory of some names. -/
def hpSel : List Nat → Hp → Hp
  | [], _ => []
  | n :: r, hp => match lk hp n with
    | some ob => (n, ob) :: hpSel r hp
    | none => hpSel r hp
def hpDel : List Nat → Hp → Hp
  | [], hp => hp
  | n :: r, hp => hpDel r (ldel hp n)
theorem lk_hpSel (L : List Nat) (hp : Hp) (n : Nat) : lk (hpSel L hp) n = if memb L n = true then lk hp n else none := by
  induction L with
  | nil => simp [hpSel, lk, memb]
  | cons m r ih =>
    unfold hpSel
    by_cases e : m = n
    · subst e
      have hm : memb (m :: r) m = true := (memb_iff _ _).2 List.mem_cons_self
      rw [hm, if_pos rfl]
      split
      · rename_i ob h; rw [lk_cons, if_pos rfl, h]
      · rename_i h; rw [ih, h]; simp
    · have hb : memb (m :: r) n = memb r n := by
        unfold memb
        cases hq : Nat.beq m n
        · cases r <;> rfl
        · exact absurd ((beq_iff m n).1 hq) e
      rw [hb]
      split
      · rw [lk_cons, if_neg e, ih]
      · rw [ih]
theorem lk_hpDel (L : List Nat) (hp : Hp) (n : Nat) : lk (hpDel L hp) n = if memb L n = true then none else lk hp n := by
  induction L generalizing hp with
  | nil => simp [hpDel, memb]
  | cons m r ih =>
    unfold hpDel
    rw [ih, lk_ldel]
    by_cases e : m = n
    · subst e
      have hm : memb (m :: r) m = true := (memb_iff _ _).2 List.mem_cons_self
      rw [hm]; simp
    · have hb : memb (m :: r) n = memb r n := by
        unfold memb
        cases hq : Nat.beq m n
        · cases r <;> rfl
        · exact absurd ((beq_iff m n).1 hq) e
      rw [hb, if_neg e]
def St.untags : List Nat → St → St
  | [], s => s
  | n :: r, s => St.untags r (s.untag n)
theorem untags_sim {g : G} {a : Act} {w : World} : ∀ (L : List Nat) {s : St}, Sim g s a w → Sim g (St.untags L s) a w ∧ (∀ b o, Own g (St.untags L s).hp b o ↔ Own g s.hp b o) ∧
    (∀ n, (∃ ob, lk (St.untags L s).hp n = some ob ∧ ∀ sz, ob ≠ .tail sz) ↔ (∃ ob, lk s.hp n = some ob ∧ ∀ sz, ob ≠ .tail sz)) ∧ (∀ n, lk (St.untags L s).hp n = none ↔ lk s.hp n = none) ∧ (St.untags L s).n = s.n
  | [], s, h => ⟨h, fun _ _ => Iff.rfl, fun _ => Iff.rfl, fun _ => Iff.rfl, rfl⟩
  | m :: r, s, h => by
    obtain ⟨h1, h2, h3, h4, h5⟩ := untags_sim r (h.untag m)
    have hlk : ∀ n, lk (s.untag m).hp n = (lk s.hp n).map (Ob.untag m) := fun n => lk_hpMap _ _ _
    refine ⟨h1, fun b o => (h2 b o).trans ((h.hp.untag m).2 b o), fun n => (h3 n).trans ?_, fun n => (h4 n).trans (by rw [hlk]; simp), h5⟩
    rw [hlk]
    cases hl : lk s.hp n with
    | none => simp
    | some ob => cases ob <;> simp [Ob.untag]
def hpAll (f : Nat → Bool) : Hp → Bool
  | [] => true
  | (k, _) :: r => f k && hpAll f r
theorem hpAll_spec {f : Nat → Bool} {hp : Hp} (h : hpAll f hp = true) {n : Nat} {ob : Ob} (hn : lk hp n = some ob) : f n = true := by
  induction hp with
  | nil => cases hn
  | cons p r ih =>
    obtain ⟨k, x⟩ := p
    simp only [hpAll, Bool.and_eq_true] at h
    rw [lk_cons] at hn
    split at hn
    · rename_i e; subst e; exact h.1
    · exact ih h.2 hn
def isObj (x : Option Ob) : Bool := match x with
  | some (.tail _) => false
  | some _ => true
  | none => false
theorem isObj_spec {x : Option Ob} (h : isObj x = true) : ∃ ob, x = some ob ∧ ∀ sz, ob ≠ .tail sz := by
  cases x with
  | none => cases h
  | some ob => cases ob with
    | tail sz => cases h
    | cells vs => exact ⟨.cells vs, rfl, fun sz => by simp⟩
    | iter a b => exact ⟨.iter a b, rfl, fun sz => by simp⟩
def app {α : Type} : List α → List α → List α
  | [], l => l
  | x :: r, l => x :: app r l
theorem lk_app {α : Type} (l m : List (Nat × α)) (n : Nat) : lk (app l m) n = match lk l n with | some x => some x | none => lk m n := by
  induction l with
  | nil => simp [app, lk]
  | cons p r ih =>
    obtain ⟨k, x⟩ := p
    simp only [app, lk_cons, ih]
    split <;> rfl
theorem refs_app {l m : Hp} {n : Nat} : n ∈ hpRefs l → n ∈ hpRefs (app l m) := by
  induction l with
  | nil => intro h; cases h
  | cons p r ih =>
    obtain ⟨k, x⟩ := p
    intro h
    simp only [app, hpRefs] at h ⊢
    exact (List.mem_append.1 h).elim (fun h => List.mem_append_left _ h) fun h => List.mem_append_right _ (ih h)

/-- Slots behind a call. -/
def tmOth (s : St) (dst : Option Tmp) : List (Nat × AV) := match dst with
  | some d => ldel s.tm d
  | none => s.tm
def St.after (s : St) (L : List Nat) (dst : Option Tmp) (r : AV) (hp' : Hp) : St :=
  { St.untags L s with tm := (match dst with
      | some d => lset (St.untags L s).tm d r
      | none => (St.untags L s).tm), hp := app hp' (hpDel L (St.untags L s).hp) }
/-- Whether what comes back can be taken in. -/
def afterOk (s : St) (L : List Nat) (dst : Option Tmp) (r : AV) (hp' : Hp) : Bool :=
  (match dst with
    | some d => ltb d s.n
    | none => true) &&
  hpAll (fun n => (match lk (hpDel L (St.untags L s).hp) n with
      | some _ => false
      | none => true) && (!(bif tmHas n (tmOth (St.untags L s) dst) then true else hpHas n (hpDel L (St.untags L s).hp)) || (memb L n && isObj (lk s.hp n)))) hp' &&
  (r.refs ++ hpRefs hp').all fun n => match lk hp' n with
      | some _ => true
      | none => false
/-- Arguments as data, where that is asked for. -/
def asArgs : List Bool → List AV → Option (List AV)
  | true :: m, x :: r => (match x.toD, asArgs m r with
    | some d, some l => some (.d d :: l)
    | _, _ => none)
  | false :: m, x :: r => (match asArgs m r with
    | some l => some (x :: l)
    | none => none)
  | [], r => some r
  | _ :: _, [] => some []
theorem asArgs_spec {g : G} {w : World} : ∀ {m : List Bool} {xs ys : List AV} {vals : List Value}, asArgs m xs = some ys → (∀ j x, xs[j]? = some x → Rel g w (vals.getD j undef) x) → ys.length = xs.length ∧ ∀ j y, ys[j]? = some y → Rel g w (vals.getD j undef) y
  | [], xs, ys, vals, h, hr => by
    simp only [asArgs, Option.some.injEq] at h; subst h; exact ⟨rfl, hr⟩
  | b :: m, [], ys, vals, h, hr => by
    cases b <;> simp only [asArgs, Option.some.injEq] at h <;> subst h <;> exact ⟨rfl, hr⟩
  | b :: m, x :: xs, ys, vals, h, hr => by
    have hshift : ∀ j, vals.tail.getD j undef = vals.getD (j + 1) undef := fun j => by simp [List.getD]
    cases b with
    | true =>
      simp only [asArgs] at h
      split at h
      · rename_i d l h1 h2
        simp only [Option.some.injEq] at h; subst h
        obtain ⟨e, hl⟩ := asArgs_spec (vals := vals.tail) h2 fun j y hj => by rw [hshift]; exact hr (j + 1) y (by simpa using hj)
        refine ⟨by simp [e], fun j y hj => ?_⟩
        cases j with
        | zero => simp at hj; subst hj; exact .d (toD_rep (hr 0 x rfl) h1)
        | succ j => rw [← hshift]; exact hl j y (by simpa using hj)
      · cases h
    | false =>
      simp only [asArgs] at h
      split at h
      · rename_i l h2
        simp only [Option.some.injEq] at h; subst h
        obtain ⟨e, hl⟩ := asArgs_spec (vals := vals.tail) h2 fun j y hj => by rw [hshift]; exact hr (j + 1) y (by simpa using hj)
        refine ⟨by simp [e], fun j y hj => ?_⟩
        cases j with
        | zero => simp at hj; subst hj; exact hr 0 _ rfl
        | succ j => rw [← hshift]; exact hl j y (by simpa using hj)
      · cases h

/-- A call by its contract: L: the names of the memory that is handed on. -/
theorem Call_con {K : List Nat} {dst : Option Tmp} {s : St} {f : FuncId} {args args' : List AV} {k : St → Prop} {R : AV → Hp → Prop} (m : List Bool) (L : List Nat) (ha : asArgs m args = some args')
    (hC : Con P f args' (hpSel L s.hp) R) (hR : ∀ r hp', R r hp' → afterOk s L dst r hp' = true ∧ k (s.after L dst r hp')) : Call P K dst s f args k := by
  refine ⟨hC.1, fun g vals w a next hl hrel hki hs hnext => ?_⟩
  obtain ⟨la, ra⟩ := asArgs_spec ha hrel
  obtain ⟨hsel, hselO⟩ := hs.hp.less (hp' := hpSel L s.hp) fun n ob hn => by
    rw [lk_hpSel] at hn
    split at hn
    · exact hn
    · cases hn
  refine (hC.2 g vals w (by omega) ra hsel).mono ?_
  rintro e w' ⟨v, r, hp', g', rfl, hRr, hrv, hH', hev, hnm⟩
  refine ⟨v, rfl, ?_⟩
  obtain ⟨hok, hk⟩ := hR r hp' hRr
  simp only [afterOk, Bool.and_eq_true] at hok
  obtain ⟨⟨hd, hall⟩, hcl⟩ := hok
  obtain ⟨hs1, hown1, hobj1, hnone1, hn1⟩ := untags_sim L hs
  generalize hS1 : St.untags L s = s1 at *
  have hcl' : ∀ n, n ∈ r.refs ∨ n ∈ hpRefs hp' → ∃ ob, lk hp' n = some ob := fun n hn => by
    have := List.all_eq_true.1 hcl n (List.mem_append.2 hn)
    cases hq : lk hp' n with
    | none => rw [hq] at this; cases this
    | some ob => exact ⟨ob, rfl⟩
  have hF : ∀ n ob, lk hp' n = some ob → lk (hpDel L s1.hp) n = none ∧ (n ∈ tmRefs (tmOth s1 dst) ++ hpRefs (hpDel L s1.hp) → memb L n = true ∧ ∃ ob0, lk s.hp n = some ob0 ∧ ∀ sz, ob0 ≠ .tail sz) := fun n ob hn => by
    have := hpAll_spec hall hn
    simp only [Bool.and_eq_true, Bool.or_eq_true, Bool.not_eq_true'] at this
    refine ⟨?_, fun hm => ?_⟩
    · have h1 := this.1
      split at h1
      · cases h1
      · assumption
    · rcases this.2 with h2 | h2
      · obtain ⟨n1, n2⟩ := noref h2
        exact absurd hm fun hm => (List.mem_append.1 hm).elim n1 n2
      · exact ⟨h2.1, isObj_spec h2.2⟩
  -- what names stand for behind the call
  let g2 : G := { S := g'.S, ρ := fun n => if (lk hp' n).isSome then g'.ρ n else g.ρ n, τ := fun n => if (lk hp' n).isSome then g'.τ n else g.τ n }
  have hg2in : ∀ n ob, lk hp' n = some ob → g2.ρ n = g'.ρ n ∧ g2.τ n = g'.τ n := fun n ob hn => by simp [g2, hn]
  have hg2out : ∀ n, lk hp' n = none → g2.ρ n = g.ρ n ∧ g2.τ n = g.τ n := fun n hn => by simp [g2, hn]
  have hoth : ∀ n, n ∈ tmRefs (tmOth s1 dst) ++ hpRefs (hpDel L s1.hp) → g2.ρ n = g.ρ n ∧ g2.τ n = g.τ n := fun n hn => by
    cases hq : lk hp' n with
    | none => exact hg2out n hq
    | some ob =>
      obtain ⟨hL, ob0, h0, ht⟩ := (hF n ob hq).2 hn
      have h1 := (hnm n ob0 (by rw [lk_hpSel, if_pos hL]; exact h0) ht).1
      have h2 := hg2in n ob hq
      exact ⟨h2.1.trans h1.1, h2.2.trans h1.2⟩
  have hS : ∀ b o, g.S b o → g2.S b o := hev.S1
  have hcell : ∀ b o, g.S b o → w'.cell? ⟨b, o, none⟩ = w.cell? ⟨b, o, none⟩ := fun b o hb => hev.sealed hsel b o hb
  have hdel : ∀ n ob, lk (hpDel L s1.hp) n = some ob → lk s1.hp n = some ob ∧ memb L n = false := fun n ob hn => by
    rw [lk_hpDel] at hn
    cases hc : memb L n
    · rw [hc] at hn; exact ⟨by simpa using hn, rfl⟩
    · rw [hc] at hn; simp at hn
  have hoSel : ∀ b o, Own g (hpSel L s.hp) b o → ∀ n ob, lk (hpDel L s1.hp) n = some ob → ¬ ownO g n ob b o := by
    rintro b o ⟨m', ob', hm', ho'⟩ n ob hn ho
    obtain ⟨h1, h2⟩ := hdel n ob hn
    rw [lk_hpSel] at hm'
    split at hm'
    · rename_i hL
      have hne : m' ≠ n := fun e => by subst e; rw [hL] at h2; cases h2
      have hx : ∃ ob1, lk s1.hp m' = some ob1 ∧ ownO g m' ob1 b o := by
        have : Own g [(m', ob')] b o := ⟨m', ob', by simp [lk], ho'⟩
        cases hq : lk s1.hp m' with
        | none => rw [(hnone1 m').1 hq] at hm'; cases hm'
        | some ob1 =>
          refine ⟨ob1, rfl, ?_⟩
          cases ob' with
          | tail sz =>
            cases ob1 with
            | tail sz1 => exact ho'
            | cells vs =>
              obtain ⟨q1, q2, q3⟩ := (hobj1 m').1 ⟨_, hq, by simp⟩
              rw [hm'] at q2; simp only [Option.some.injEq] at q2; subst q2; exact absurd rfl (q3 sz)
            | iter a b =>
              obtain ⟨q1, q2, q3⟩ := (hobj1 m').1 ⟨_, hq, by simp⟩
              rw [hm'] at q2; simp only [Option.some.injEq] at q2; subst q2; exact absurd rfl (q3 sz)
          | cells vs =>
            cases ob1 with
            | tail sz1 =>
              obtain ⟨q1, q2, q3⟩ := (hobj1 m').2 ⟨_, hm', by simp⟩
              rw [hq] at q2; simp only [Option.some.injEq] at q2; subst q2; exact absurd rfl (q3 sz1)
            | cells vs => exact ho'
            | iter a b => exact ho'
          | iter a c =>
            cases ob1 with
            | tail sz1 =>
              obtain ⟨q1, q2, q3⟩ := (hobj1 m').2 ⟨_, hm', by simp⟩
              rw [hq] at q2; simp only [Option.some.injEq] at q2; subst q2; exact absurd rfl (q3 sz1)
            | cells vs => exact ho'
            | iter a b => exact ho'
      obtain ⟨ob1, q1, q2⟩ := hx
      exact hs1.hp.dis m' n ob1 ob q1 h1 hne b o q2 ho
    · cases hm'
  have hltF : ∀ n ob b o, lk (hpDel L s1.hp) n = some ob → ownO g n ob b o → b < w.heap.size := fun n ob b o hn ho => own_lt hs1.hp (hdel n ob hn).1 ho
  have hsameF : ∀ n ob, lk (hpDel L s1.hp) n = some ob → g2.ρ n = g.ρ n ∧ g2.τ n = g.τ n := fun n ob hn => by
    cases hq : lk hp' n with
    | none => exact hg2out n hq
    | some ob' => rw [(hF n ob' hq).1] at hn; cases hn
  have hH : SimH g2 (app hp' (hpDel L s1.hp)) w' := by
    refine ⟨fun n ob hn => ?_, fun b o hb => ?_, fun n n' ob pb h1 h2 hne b o ho1 ho2 => ?_, hH'.ex⟩
    · rw [lk_app] at hn
      split at hn
      · rename_i ob' hq
        simp only [Option.some.injEq] at hn; subst hn
        exact ObRel.mono (g := g') (w := w') (h := hH'.ob n ob' hq) (fun _ _ hs => hs) (fun _ _ _ => rfl) (hg2in n ob' hq) (fun m hm => by
          obtain ⟨ob'', h1⟩ := hcl' m (.inr (hpRefs_mem hq hm)); exact hg2in m ob'' h1) fun _ _ => rfl
      · have h1 := hdel n ob hn
        have h0 := hs1.hp.ob n ob h1.1
        have hrefs : ∀ m ∈ ob.refs, g2.ρ m = g.ρ m ∧ g2.τ m = g.τ m := fun m hm => hoth m (List.mem_append_right _ (hpRefs_mem hn hm))
        have hblk : ∀ b, (∃ o, ownO g n ob b o) → (∀ sz, ob ≠ .tail sz) → w'.heap[b]? = w.heap[b]? := fun b ⟨o, ho⟩ ht => hev.blk b (hltF n ob b o hn ho) fun f hf => hoSel b f hf n ob hn (by
          cases ob with
          | tail sz => exact absurd rfl (ht sz)
          | cells vs => exact ho
          | iter a c => exact ho)
        cases ob with
        | tail sz =>
          obtain ⟨a1, a0, a2⟩ := h0
          refine ⟨by rw [(hsameF n _ hn).2]; exact a1, a0, ?_⟩
          rw [(hsameF n _ hn).2]
          intro hroom
          obtain ⟨c1, e1, fr1, b1, b2, b3⟩ := a2 hroom
          obtain ⟨c2, q1, q2⟩ := hev.shp _ c1 e1 fr1 b1
          exact ⟨c2, e1, fr1, q1, by rw [q2]; exact b2, by rw [q2]; exact b3⟩
        | cells vs => exact ObRel.mono (g := g) (w := w) (h := h0) hS hcell (hsameF n _ hn) hrefs fun b hb => hblk b hb (by simp)
        | iter a c => exact ObRel.mono (g := g) (w := w) (h := h0) hS hcell (hsameF n _ hn) hrefs fun b hb => hblk b hb (by simp)
    · rintro ⟨n, ob, hn, ho⟩
      rw [lk_app] at hn
      split at hn
      · rename_i ob' hq
        simp only [Option.some.injEq] at hn; subst hn
        exact hH'.sep b o hb ⟨n, ob', hq, (own_same (hg2in n ob' hq) b o).1 ho⟩
      · have ho' := (own_same (hsameF n ob hn) b o).1 ho
        rcases hev.S2 b o hb with h1 | h1 | h1
        · exact hs1.hp.sep b o h1 ⟨n, ob, (hdel n ob hn).1, ho'⟩
        · exact hoSel b o h1 n ob hn ho'
        · have := hltF n ob b o hn ho'; omega
    · rw [lk_app] at h1 h2
      split at h1
      · rename_i ob1 q1
        simp only [Option.some.injEq] at h1; subst h1
        have ho1' := (own_same (hg2in n ob1 q1) b o).1 ho1
        split at h2
        · rename_i ob2 q2
          simp only [Option.some.injEq] at h2; subst h2
          exact hH'.dis n n' ob1 ob2 q1 q2 hne b o ho1' ((own_same (hg2in n' ob2 q2) b o).1 ho2)
        · have ho2' := (own_same (hsameF n' pb h2) b o).1 ho2
          rcases hev.o2 b o ⟨n, ob1, q1, ho1'⟩ with h3 | h3
          · exact hoSel b o h3 n' pb h2 ho2'
          · have := hltF n' pb b o h2 ho2'; omega
      · have ho1' := (own_same (hsameF n ob h1) b o).1 ho1
        split at h2
        · rename_i ob2 q2
          simp only [Option.some.injEq] at h2; subst h2
          have ho2' := (own_same (hg2in n' ob2 q2) b o).1 ho2
          rcases hev.o2 b o ⟨n', ob2, q2, ho2'⟩ with h3 | h3
          · exact hoSel b o h3 n ob h1 ho1'
          · have := hltF n ob b o h1 ho1'; omega
        · exact hs1.hp.dis n n' ob pb (hdel n ob h1).1 (hdel n' pb h2).1 hne b o ho1' ((own_same (hsameF n' pb h2) b o).1 ho2)
  have hrv2 : Rel g2 w' v r := Rel.mono (g := g') (g' := g2) (w := w') (fun _ _ hs => hs) (fun _ _ _ => rfl) hrv fun n hn => by
    obtain ⟨ob, h1⟩ := hcl' n (.inl hn); exact hg2in n ob h1
  have hsim : Sim g2 (s.after L dst r hp') (a.put dst v) w' := by
    unfold St.after
    rw [hS1]
    cases dst with
    | none =>
      refine ⟨hs1.n, hs1.df, fun i => ?_, hH⟩
      exact (hs1.tm i).mono hS hcell fun n hn => hoth n (List.mem_append_left _ (get_refs hn))
    | some d =>
      have hd' : d < s1.n := by rw [hn1]; exact Nat.le_of_ble_eq_true hd
      exact hs1.upd (g' := g2) d hd' hS hcell (fun i hi n hn => hoth n (List.mem_append_left _ (refs_ldel hi hn))) hrv2 hH
  have hownOut : ∀ b o, Own g2 (app hp' (hpDel L s1.hp)) b o → Own g s.hp b o ∨ w.heap.size ≤ b := by
    rintro b o ⟨n, ob, hn, ho⟩
    rw [lk_app] at hn
    split at hn
    · rename_i ob' hq
      simp only [Option.some.injEq] at hn; subst hn
      rcases hev.o2 b o ⟨n, ob', hq, (own_same (hg2in n ob' hq) b o).1 ho⟩ with h1 | h1
      · exact .inl (hselO b o h1)
      · exact .inr h1
    · exact .inl ((hown1 b o).1 ⟨n, ob, (hdel n ob hn).1, (own_same (hsameF n ob hn) b o).1 ho⟩)
  refine hnext _ g2 _ w' hsim ⟨?_, fun n hn => ?_, fun n hn => ?_⟩ hk
  · have hE : Ev (Own g s.hp) (Own g2 (app hp' (hpDel L s1.hp))) g g2 w w' := ⟨hev.os, hev.tape, hev.output, hev.size, fun b hb hf => hev.blk b hb fun f h1 => hf f (hselO b f h1), fun b f hb hf => hev.cell b f hb fun h1 => hf (hselO b f h1), hev.shp, hS,
      fun b f hb => (hev.S2 b f hb).elim .inl fun h => h.elim (fun h => .inr (.inl (hselO b f h))) fun h => .inr (.inr h), hownOut⟩
    unfold St.after
    rw [hS1]
    exact hE
  · obtain ⟨ob, h1, h2⟩ := hki n hn
    cases hc : memb L n
    · obtain ⟨ob1, q1, q2⟩ := (hobj1 n).2 ⟨ob, h1, h2⟩
      exact hsameF n ob1 (by rw [lk_hpDel, hc]; simpa using q1)
    · obtain ⟨q1, ob', q2, q3⟩ := hnm n ob (by rw [lk_hpSel, if_pos hc]; exact h1) h2
      have := hg2in n ob' q2
      exact ⟨this.1.trans q1.1, this.2.trans q1.2⟩
  · obtain ⟨ob, h1, h2⟩ := hki n hn
    unfold St.after
    rw [hS1]
    simp only [lk_app]
    cases hc : memb L n
    · obtain ⟨ob1, q1, q2⟩ := (hobj1 n).2 ⟨ob, h1, h2⟩
      cases hq : lk hp' n with
      | none => exact ⟨ob1, by rw [lk_hpDel, hc]; simpa using q1, q2⟩
      | some ob' =>
        have := (hF n ob' hq).1
        rw [lk_hpDel, hc] at this
        simp only [Bool.false_eq_true, if_false] at this
        rw [this] at q1; cases q1
    · obtain ⟨q1, ob', q2, q3⟩ := hnm n ob (by rw [lk_hpSel, if_pos hc]; exact h1) h2
      exact ⟨ob', by rw [q2], q3⟩
end Go.Wl

/- Values and memory told without addresses: contracts out of walks, and back. -/
set_option linter.unusedVariables false
set_option linter.unusedSimpArgs false
namespace Go.Wl
variable {P : Program}

def numb : Nat → List AV → List (Nat × AV)
  | _, [] => []
  | n, x :: r => (n, x) :: numb (n + 1) r
theorem lk_numb : ∀ (l : List AV) (n i : Nat), lk (numb n l) i = if n ≤ i then l[i - n]? else none
  | [], n, i => by simp [numb, lk]
  | x :: r, n, i => by
    rw [numb, lk_cons, lk_numb r]
    by_cases h1 : n = i
    · subst h1; simp
    · rw [if_neg h1]
      by_cases h2 : n ≤ i
      · rw [if_pos (by omega), if_pos h2, show i - n = (i - (n + 1)) + 1 by omega]; simp
      · rw [if_neg (by omega), if_neg h2]
def initSt (n : Nat) (args : List AV) (hp : Hp) : St := { n := n, tm := numb 0 args, hp := hp }

def arets (P : Program) (s : St) : List ResultVar → Option (List AV)
  | [] => some []
  | .tmp t :: r => (match arets P s r with
    | some l => some (s.get t :: l)
    | none => none)
  | .cell a t :: r => (match aload P t s (s.get a), arets P s r with
    | some y, some l => some (y :: l)
    | _, _ => none)
def aret (P : Program) (s : St) (rs : List ResultVar) : Option AV :=
  match arets P s rs with
  | some [x] => some x
  | some l => some (.tup l)
  | none => none
theorem aload_ptr {g : G} {w : World} {v : Value} {x y : AV} {s : St} {t : TypeId} (hv : Rel g w v x) (h : aload P t s x = some y) : ∃ ad, v = .pointer (some ad) := by
  cases hv with
  | ptr => exact ⟨_, rfl⟩
  | d hd => cases hd <;> first | exact ⟨_, rfl⟩ | simp [aload] at h
  | _ => simp [aload] at h
theorem arets_run {g : G} {s : St} {a : Act} {w : World} (h : Sim g s a w) (f : ResultVar → Sem Value) (f1 : ∀ t, f (.tmp t) = pure (a.tmps.getD t undef)) (f2 : ∀ b t, f (.cell b t) = do loadVar t (← asAddr (a.tmps.getD b undef))) : ∀ {rs : List ResultVar} {l : List AV}, arets P s rs = some l → ∃ vs : List Value, vs.length = l.length ∧ (∀ j x, l[j]? = some x → Rel g w (vs.getD j undef) x) ∧
    (rs.mapM f).run P w = .ok vs w
  | [], l, h1 => by simp only [arets, Option.some.injEq] at h1; subst h1; exact ⟨[], rfl, by simp, rfl⟩
  | .tmp t :: r, l, h1 => by
    simp only [arets] at h1
    split at h1
    · rename_i l' h2
      simp only [Option.some.injEq] at h1; subst h1
      obtain ⟨vs, q1, q2, q3⟩ := arets_run h f f1 f2 h2
      refine ⟨a.tmps.getD t undef :: vs, by simp [q1], fun j x hj => ?_, by simp only [List.mapM_cons, Sem.run_bind, f1, Sem.run_pure, Result.andThen_ok, q3]⟩
      cases j with
      | zero => simp at hj; subst hj; exact h.tm t
      | succ j => simpa [List.getD] using q2 j x (by simpa using hj)
    · cases h1
  | .cell b t :: r, l, h1 => by
    simp only [arets] at h1
    split at h1
    · rename_i y l' h2 h3
      simp only [Option.some.injEq] at h1; subst h1
      obtain ⟨vs, q1, q2, q3⟩ := arets_run h f f1 f2 h3
      obtain ⟨ad, had⟩ := aload_ptr (h.tm b) h2
      obtain ⟨u, hu, hr⟩ := aload_sound h.hp (h.tm b) h2
      rw [had] at hu
      refine ⟨u :: vs, by simp [q1], fun j x hj => ?_, ?_⟩
      · cases j with
        | zero => simp at hj; subst hj; exact hr
        | succ j => simpa [List.getD] using q2 j x (by simpa using hj)
      · simp only [Instr.loadAt, Instr.sureAddr, Sem.run_bind, Sem.run_pure, Result.andThen_ok] at hu
        simp only [List.mapM_cons, Sem.run_bind, f2, had, asAddr, Sem.run_pure, Result.andThen_ok, hu, q3]
    · cases h1
theorem aret_run {g : G} {s : St} {a : Act} {w : World} (h : Sim g s a w) {fn : Func} {x : AV} (hx : aret P s fn.results.toList = some x) : ∃ v, (results fn a.tmps).run P w = .ok v w ∧ Rel g w v x := by
  unfold aret at hx
  have hres : ∀ l, arets P s fn.results.toList = some l → ∃ vs : List Value, vs.length = l.length ∧ (∀ j x, l[j]? = some x → Rel g w (vs.getD j undef) x) ∧ (results fn a.tmps).run P w = .ok (if h : vs.toArray.size = 1 then vs.toArray[0] else .tuple vs.toArray) w := by
    intro l hl
    unfold results
    obtain ⟨vs, q1, q2, q3⟩ := arets_run (P := P) h (fun
      | .tmp t => pure (a.tmps.getD t undef)
      | .cell b t => do loadVar t (← asAddr (a.tmps.getD b undef))) (fun _ => rfl) (fun _ _ => rfl) hl
    refine ⟨vs, q1, q2, ?_⟩
    rw [Array.mapM_eq_mapM_toList]
    simp only [Sem.run_bind, Sem.run_map]
    erw [q3]
    rfl
  split at hx
  · rename_i y hl
    simp only [Option.some.injEq] at hx; subst hx
    obtain ⟨vs, q1, q2, q3⟩ := hres _ hl
    rcases vs with _ | ⟨v, _ | ⟨u, r⟩⟩
    · simp at q1
    · exact ⟨v, by rw [q3]; rfl, by simpa using q2 0 y rfl⟩
    · simp at q1
  · rename_i l hne hl
    simp only [Option.some.injEq] at hx; subst hx
    obtain ⟨vs, q1, q2, q3⟩ := hres _ hl
    have hn1 : ¬ vs.toArray.size = 1 := fun e => by
      simp only [List.size_toArray] at e
      rcases l with _ | ⟨x, _ | ⟨y, r⟩⟩
      · simp at q1; subst q1; simp at e
      · exact hne x rfl
      · simp at q1; omega
    rw [dif_neg hn1] at q3
    exact ⟨_, q3, .tup (by simp [q1]) fun j x hj => by simpa [List.getD] using q2 j x hj⟩
  · cases hx

def objNames (hp : Hp) : List Nat := (hp.map (·.1)).filter fun n => isObj (lk hp n)
/-- How a body ends: with these results, and this memory. -/
def retQ (P : Program) (rs : List ResultVar) (ns : List Nat) (R : AV → Hp → Prop) : Exit → St → Prop
  | .normal, s => ∃ r r', aret P s rs = some r ∧ (r' = r ∨ ∃ x, r.toD = some x ∧ r' = .d x) ∧ R r' (keepL s.hp ns)
  | .ret, s => ∃ r r', aret P s rs = some r ∧ (r' = r ∨ ∃ x, r.toD = some x ∧ r' = .d x) ∧ R r' (keepL s.hp ns)
  | _, _ => False
theorem Con.ofW {f : FuncId} {fn : Func} {c : Code} {args : List AV} {hp : Hp} {R : AV → Hp → Prop} (hf : P.funcs[f]? = some fn) (hb : fn.body = some c) (hcb : cbl P f = true) (hlen : args.length ≤ fn.ntmps) (ns : List Nat)
    (hns : (objNames hp).all (memb ns ·) = true) (h : W P (objNames hp) c (initSt fn.ntmps args hp) (retQ P fn.results.toList ns R)) : Con P f args hp R := by
  refine ⟨hcb, fun g vals w hl hr hh => ?_⟩
  have hki : KIn (objNames hp) hp := fun n hn => by
    simp only [objNames, List.mem_filter] at hn
    exact isObj_spec hn.2
  have hsim : Sim g (initSt fn.ntmps args hp) { tmps := vals.toArray ++ Array.replicate (fn.ntmps - vals.toArray.size) undef, defers := [] } w := by
    refine ⟨by simp [initSt]; omega, rfl, fun i => ?_, hh⟩
    unfold St.get initSt
    simp only [lk_numb, Nat.zero_le, if_true, Nat.sub_zero]
    cases hi : args[i]? with
    | none => exact .any
    | some x =>
      have h1 := hr i x hi
      have hlt := lt_of_get hi
      have : i < vals.length := by omega
      simp only [Array.getD_eq_getD_getElem?]
      rw [Array.getElem?_append_left (by simpa using this)]
      simpa [List.getD] using h1
  refine calls_of_wp hf hb (wp_mono (h g _ w hki hsim) ?_)
  have key : ∀ (s' : St) (g' : G) (a' : Act) (w' : World), Sim g' s' a' w' → To (objNames hp) g hp w g' s'.hp w' → (∃ r r', aret P s' fn.results.toList = some r ∧ (r' = r ∨ ∃ x, r.toD = some x ∧ r' = .d x) ∧ R r' (keepL s'.hp ns)) →
      a'.defers = [] ∧ ∃ v, (results fn a'.tmps).run P w' = .ok v w' ∧ ∃ v_1 r hp' g', Ending.returned v = .returned v_1 ∧ R r hp' ∧ Rel g' w' v_1 r ∧ SimH g' hp' w' ∧ Ev (Own g hp) (Own g' hp') g g' w w' ∧ Names g hp g' hp' := by
    rintro s' g' a' w' hs' ht ⟨r, r', h1, h2, h3⟩
    obtain ⟨v, q1, q2⟩ := aret_run hs' h1
    have hrv : Rel g' w' v r' := by
      rcases h2 with rfl | ⟨x, h4, rfl⟩
      · exact q2
      · exact .d (toD_rep q2 h4)
    obtain ⟨p1, p2⟩ := hs'.hp.less (hp' := keepL s'.hp ns) fun n ob hn => by
      rw [lk_keepL] at hn
      split at hn
      · exact hn
      · cases hn
    refine ⟨hs'.df, v, q1, v, r', keepL s'.hp ns, g', rfl, h3, hrv, p1, ht.ev.trans (Ev.world rfl rfl rfl rfl (fun _ _ => Iff.rfl) p2), fun n ob hn hnt => ?_⟩
    have hmem : n ∈ objNames hp := by
      simp only [objNames, List.mem_filter, List.mem_map]
      refine ⟨⟨(n, ob), lk_mem hn, rfl⟩, ?_⟩
      rw [hn]
      cases ob <;> first | rfl | exact absurd rfl (hnt _)
    obtain ⟨ob', h5, h6⟩ := ht.ki n hmem
    exact ⟨ht.ks n hmem, ob', by rw [lk_keepL, if_pos (List.all_eq_true.1 hns n hmem)]; exact h5, h6⟩
  rintro e a' w' ⟨s', g', h1, h2, h3⟩
  cases e with
  | normal => exact key s' g' a' w' h1 h2 h3
  | ret => exact key s' g' a' w' h1 h2 h3
  | _ => exact h3.elim

/-- A contract without memory of our own, as the kit tells it. -/
theorem Con.calls {f : FuncId} {args : List AV} {R : AV → Hp → Prop} (h : Con P f args [] R) (w : World) (ρ : Nat → Nat) (τ : Nat → Tl) (vals : List Value) (hl : vals.length = args.length)
    (hr : ∀ j x, args[j]? = some x → Rel ⟨fun b o => (w.cell? ⟨b, o, none⟩).isSome = true, ρ, τ⟩ w (vals.getD j undef) x) :
    Calls P f vals.toArray w fun e w' => ∃ v r hp' g', e = .returned v ∧ R r hp' ∧ Rel g' w' v r ∧ RowKit.Below w.heap.size w w' := by
  refine (h.2 ⟨fun b o => (w.cell? ⟨b, o, none⟩).isSome = true, ρ, τ⟩ vals w hl hr ⟨by simp [lk], by simp [Own, lk], by simp [lk], fun b o hs => Option.isSome_iff_exists.1 hs⟩).mono ?_
  rintro e w' ⟨v, r, hp', g', q1, q2, q3, q4, q5, q6⟩
  exact ⟨v, r, hp', g', q1, q2, q3, q5.os, q5.tape, q5.output, q5.size, fun k hk => q5.blk k hk fun f => by simp [Own, lk]⟩
/-- What the kit tells of a call that returns data, as a contract. -/
theorem Con.ofCalls {f : FuncId} {args : List AV} {x : D} (hcb : cbl P f = true) (h : ∀ (S : Nat → Nat → Prop) (w : World) (ρ : Nat → Nat) (τ : Nat → Tl) (vals : List Value), vals.length = args.length → (∀ j y, args[j]? = some y → Rel ⟨S, ρ, τ⟩ w (vals.getD j undef) y) →
      (∀ b o, S b o → ∃ v, w.cell? ⟨b, o, none⟩ = some v) →
      Calls P f vals.toArray w fun e w' => ∃ v, e = .returned v ∧ RowKit.Below w.heap.size w w' ∧ Rep (fun b o => S b o ∨ (w.heap.size ≤ b ∧ (w'.cell? ⟨b, o, none⟩).isSome = true)) w' v x) :
    Con P f args [] fun r hp' => r = .d x ∧ hp' = [] := by
  refine ⟨hcb, fun g vals w hl hr hh => ?_⟩
  refine (h g.S w g.ρ g.τ vals hl hr hh.ex).mono ?_
  rintro e w' ⟨v, rfl, hb, hrep⟩
  refine ⟨v, .d x, [], ⟨fun b o => g.S b o ∨ (w.heap.size ≤ b ∧ (w'.cell? ⟨b, o, none⟩).isSome = true), g.ρ, g.τ⟩, rfl, ⟨rfl, rfl⟩, .d hrep, ⟨by simp [lk], by simp [Own, lk], by simp [lk], fun b o hs => ?_⟩, ?_, fun n ob hn => by cases hn⟩
  · rcases hs with hs | ⟨_, hs⟩
    · obtain ⟨u, hu⟩ := hh.ex b o hs
      exact ⟨u, (World.cell?_of_block (w := w) (hb.block b (hh.lt hs))).trans hu⟩
    · exact Option.isSome_iff_exists.1 hs
  · refine ⟨hb.os, hb.tape, hb.output, hb.size, fun b hb' _ => hb.block b hb', fun b f hb' _ => World.cell?_of_block (w := w) (hb.block b hb'), fun b c e fr hc => ⟨c, (hb.block b (Array.getElem?_eq_some_iff.1 hc).1).trans hc, rfl⟩, fun b f hs => .inl hs, fun b f hs => ?_, fun b f ⟨n, ob, hn, _⟩ => by cases hn⟩
    rcases hs with hs | ⟨hs, _⟩
    · exact .inl hs
    · exact .inr (.inr hs)
end Go.Wl

/- Values and memory told without addresses: code in a brief form. -/
set_option linter.unusedVariables false
set_option linter.unusedSimpArgs false
namespace Go.Wl
variable {P : Program}

def ob {α β : Type} (x : Option α) (f : α → Option β) : Option β := match x with
  | some y => f y
  | none => none
def opt {α : Type} (x : Option α) (k : α → Prop) : Prop := match x with
  | some y => k y
  | none => False
theorem opt_some {α : Type} (x : α) (k : α → Prop) : opt (some x) k = k x := rfl
theorem opt_none {α : Type} (k : α → Prop) : opt none k = False := rfl
theorem opt_ob {α β : Type} (x : Option α) (f : α → Option β) (k : β → Prop) : opt (ob x f) k = opt x fun y => opt (f y) k := by cases x <;> rfl
theorem opt_if {α : Type} (c : Prop) [Decidable c] (x : Option α) (k : α → Prop) : opt (if c then x else none) k = (c ∧ opt x k) := by by_cases h : c <;> simp [h, opt]
theorem opt_ifn {α : Type} (c : Prop) [Decidable c] (x : Option α) (k : α → Prop) : opt (if c then none else x) k = (¬ c ∧ opt x k) := by by_cases h : c <;> simp [h, opt]
theorem opt_if2 {α : Type} (c : Prop) [Decidable c] (x y : α) (k : α → Prop) : opt (if c then some x else some y) k = ((c → k x) ∧ (¬ c → k y)) := by by_cases h : c <;> simp [h, opt]
theorem opt_map {α β : Type} (x : Option α) (f : α → β) (k : β → Prop) : opt (x.map f) k = opt x fun y => k (f y) := by cases x <;> rfl
theorem opt_bif {α : Type} (c : Bool) (x : Option α) (k : α → Prop) : opt (bif c then x else none) k = (c = true ∧ opt x k) := by cases c <;> simp [opt]
theorem opt_of {α : Type} {x : Option α} {y : α} (h : x = some y) {k : α → Prop} (hk : k y) : opt x k := by rw [h]; exact hk

def aindex2 (P : Program) (t : TypeId) (x : AV) (i : AV) : Option AV :=
  match i with
  | .d (.int _ i) => (match el P t with
    | some (_, k) => (match x with
      | .slc n off len _ => if 0 ≤ i ∧ i < len then some (.ptr n (off + i.toNat * k)) else none
      | x => ob x.list fun xs => if 0 ≤ i then ob xs[i.toNat]? fun y => bif Nat.beq y.width k then some (.d (.cptr y)) else none else none)
    | none => (match arr P t with
      | some (n, k, b) => (match x with
        | .ptr m off => if 0 ≤ i ∧ i < n then some (.ptr m (off + i.toNat * k)) else none
        | .d (.cptr (.agg cs)) => if 0 ≤ i ∧ i < n then ob (D.part cs (i.toNat * k) k b) fun y => if b || y.one then some (.d (.cptr y)) else none else none
        | _ => none)
      | none => none))
  | _ => none
theorem aindex2_eq (t : TypeId) (x i : AV) : aindex2 P t x i = aindex P t x i := by
  cases i with
  | d i =>
    cases i with
    | int kd i =>
      simp only [aindex2, aindex]
      cases el P t with
      | some p =>
        obtain ⟨pe, pk⟩ := p
        have key : ∀ xs : List D, (if 0 ≤ i then ob xs[i.toNat]? fun y => bif Nat.beq y.width pk then some (AV.d (.cptr y)) else none else none) = (if 0 ≤ i then (match xs[i.toNat]? with
          | some y => bif Nat.beq y.width pk then some (AV.d (.cptr y)) else none
          | none => none) else none) := fun xs => by cases xs[i.toNat]? <;> rfl
        cases x with
        | slc => rfl
        | d y => cases y <;> first | rfl | exact key _
        | nils => exact key _
        | lit xs => exact key _
        | sl n xs => exact key _
        | rs xs ys => exact key _
        | _ => rfl
      | none =>
        cases arr P t with
        | none => rfl
        | some p =>
          obtain ⟨pn, pk, pb⟩ := p
          cases x with
          | d y =>
            cases y with
            | cptr y =>
              cases y with
              | agg cs =>
                simp only
                cases D.part cs (i.toNat * pk) pk pb <;> rfl
              | _ => rfl
            | _ => rfl
          | _ => rfl
    | _ => rfl
  | _ => rfl
def aindexV2 (P : Program) (t : TypeId) (x i : AV) : Option AV :=
  match i with
  | .d (.int _ i) => (match x with
    | .d (.str bs) => bif isStr P t then (if 0 ≤ i then ob bs[i.toNat]? fun c => some (.d (u8 c)) else none) else none
    | x => (match x.aggOf, arr P t with
      | some cs, some (n, k, b) => if 0 ≤ i ∧ i < n then AV.part cs (i.toNat * k) k b else none
      | _, _ => none))
  | _ => none
theorem aindexV2_eq (t : TypeId) (x i : AV) : aindexV2 P t x i = aindexV P t x i := by
  cases i with
  | d i =>
    cases i with
    | int kd i =>
      simp only [aindexV2, aindexV]
      cases x with
      | d y =>
        cases y with
        | str bs =>
          simp only
          cases bs[i.toNat]? <;> rfl
        | _ => rfl
      | _ => rfl
    | _ => rfl
  | _ => rfl
/-- A bound of a slice. -/
def ibnd2 (x : Option AV) (d : Nat) (k : Nat → Option AV) : Option AV :=
  match x with
  | none => k d
  | some (.d (.int _ i)) => if 0 ≤ i then k i.toNat else none
  | _ => none
theorem ibnd2_eq (x : Option AV) (d : Nat) (k : Nat → Option AV) : ibnd2 x d k = ob (ibnd x d) k := by
  unfold ibnd2 ibnd ob
  split
  · rfl
  · rename_i k' i
    by_cases h : 0 ≤ i <;> simp [h]
  · rename_i h1 h2
    split
    · rename_i y hy
      split at hy
      · exact absurd rfl h1
      · exact absurd rfl (h2 _ _)
      · cases hy
    · rfl
def asliceL2 (P : Program) (t : TypeId) (x : AV) (lo hi mx : Option AV) : Option AV :=
  match x.list, el P t with
  | some xs, some (_, k) => ibnd2 lo 0 fun l => ibnd2 hi xs.length fun h =>
      if l ≤ h ∧ h ≤ xs.length ∧ (Nat.beq l 0 || xs.all fun x => Nat.beq x.width k) = true then (match mx with
        | some y => ibnd2 (some y) 0 fun m => if m = h ∧ hi.isSome = true then some (.lit ((xs.take h).drop l)) else none
        | none => (match hi, x with
          | none, .sl n xs => some (.sl n (xs.drop l))
          | none, .lit xs => some (.lit (xs.drop l))
          | _, _ => some (.d (.list ((xs.take h).drop l))))) else none
  | _, _ => none
theorem asliceL2_eq (t : TypeId) (x : AV) (lo hi mx : Option AV) : asliceL2 P t x lo hi mx = asliceL P t x lo hi mx := by
  unfold asliceL2 asliceL
  cases h1 : x.list with
  | none => rfl
  | some xs =>
    cases h2 : el P t with
    | none => rfl
    | some p =>
      simp only [ibnd2_eq]
      cases hl : ibnd lo 0 with
      | none => rfl
      | some l =>
        cases hh : ibnd hi xs.length with
        | none => rfl
        | some h =>
          cases mx with
          | none => rfl
          | some y =>
            simp only [ob]
            cases ibnd (some y) 0 <;> rfl
def aslice2 (P : Program) (t : TypeId) (x : AV) (lo hi mx : Option AV) : Option AV :=
  match x with
  | .d (.str bs) => bif isStr P t && mx.isNone then ibnd2 lo 0 fun l => ibnd2 hi bs.length fun h => if l ≤ h ∧ h ≤ bs.length then some (.d (.str ((bs.take h).drop l))) else none else none
  | .slc n off len cap => aslice P t (.slc n off len cap) lo hi mx
  | .ptr n off => aslice P t (.ptr n off) lo hi mx
  | .rs xs ys => aslice P t (.rs xs ys) lo hi mx
  | x => asliceL2 P t x lo hi mx
theorem aslice2_eq (t : TypeId) (x : AV) (lo hi mx : Option AV) : aslice2 P t x lo hi mx = aslice P t x lo hi mx := by
  unfold aslice2
  split
  · unfold aslice
    simp only [ibnd2_eq]
    cases isStr P t && mx.isNone
    · rfl
    · simp only [cond_true]
      rename_i bs
      cases hl : ibnd lo 0 with
      | none => rfl
      | some l =>
        cases hh : ibnd hi bs.length with
        | none => rfl
        | some h => rfl
  · rfl
  · rfl
  · rfl
  · rename_i h1 h2 h3 h4
    rw [asliceL2_eq]
    unfold aslice
    split
    · rename_i bs; exact absurd rfl (h1 bs)
    all_goals first | rfl | exact absurd rfl (h2 _ _ _ _) | exact absurd rfl (h3 _ _) | exact absurd rfl (h4 _ _)
/-- What an operation does, with the tests to the fore. -/
def aopS (P : Program) (d : Option Nat) (op : Op) (s : St) : Option St :=
  match op with
  | .move x => s.setv d (s.ev x)
  | .assign x => s.setv d (s.ev x)
  | .pick c a b => ob (apick (s.ev c) (s.ev a) (s.ev b)) (s.setv d)
  | .nilCheck x => ob (ank (s.ev x)) (s.setv d)
  | .binOp op t x y _ => ob (abin P op t x y (s.ev x) (s.ev y)) (s.setv d)
  | .unOp op _ x => ob (aun op (s.ev x)) (s.setv d)
  | .load t x => ob (aload P t s (s.ev x)) (s.setv d)
  | .fieldAddr t x f => ob (afield P t f (s.ev x)) (s.setv d)
  | .field t x f => ob (afieldV P t f (s.ev x)) (s.setv d)
  | .indexAddr t x i => ob (aindex2 P t (s.ev x) (s.ev i)) (s.setv d)
  | .index t x i => ob (aindexV2 P t (s.ev x) (s.ev i)) (s.setv d)
  | .slice t x lo hi mx => ob (aslice2 P t (s.ev x) (lo.map s.ev) (hi.map s.ev) (mx.map s.ev)) (s.setv d)
  | .extract x i => ob (aext (s.ev x) i) (s.setv d)
  | op => aop P ⟨d, op, 0, "", #[], none⟩ s
theorem aopS_eq (o : Oper) (s : St) : aopS P o.dst o.op s = aop P o s := by
  obtain ⟨d, op, ty, pos, after, guard⟩ := o
  cases op <;> first
    | rfl
    | (simp only [aopS, aop, aindex2_eq, aindexV2_eq, aslice2_eq]; split <;> (rename_i h; rw [h]; rfl))

structure Sop where
  d : Option Nat
  op : Op
  g : Option (Nat × Bool)
def copS (ops : Array Oper) : List Oper → Option (List Sop)
  | [] => some []
  | o :: r => (match o.guard, copS ops r with
    | none, some l => some (⟨o.dst, o.op, none⟩ :: l)
    | some (j, w), some l => (match (ops[j]?).bind (·.dst) with
      | some t => some (⟨o.dst, o.op, some (t, w)⟩ :: l)
      | none => none)
    | _, none => none)
def stepS (P : Program) (K : List Nat) (d : Option Nat) (op : Op) (s : St) (k : St → Prop) : Prop :=
  match op with
  | .call { callee := .value f, args, .. } => callK P K d s (s.ev f) (args.toList.map s.ev) k
  | op => match aopS P d op s with
    | some s' => k s'
    | none => nilK P d op s k
def boolOf (x : AV) (k : Bool → Prop) : Prop := match x with
  | .d (.bool b) => k b
  | _ => False
def gdOf (x : Option Bool) (k : Bool → Prop) : Prop := match x with
  | some b => k b
  | none => False
/-- The operations of a region, in order. -/
def WRs (P : Program) (K : List Nat) : List Sop → St → (St → Prop) → Prop
  | [], s, k => k s
  | ⟨d, op, none⟩ :: r, s, k => stepS P K d op s fun s' => WRs P K r s' k
  | ⟨d, op, some (t, w)⟩ :: r, s, k => gdOf (gdv (s.get t) w) fun b => (b = true → stepS P K d op s fun s' => WRs P K r s' k) ∧ (b = false → opt (s.setv d und) fun s' => WRs P K r s' k)
theorem stepS_K {K : List Nat} {o : Oper} {s : St} {k : St → Prop} (h : stepS P K o.dst o.op s k) : stepK P K o s k := by
  have hgen : (match aopS P o.dst o.op s with | some s' => k s' | none => nilK P o.dst o.op s k) → (match aop P o s with | some s' => k s' | none => nilK P o.dst o.op s k) := fun h => by rw [aopS_eq] at h; exact h
  obtain ⟨d, op, ty, pos, after, guard⟩ := o
  cases op
  case call c =>
    obtain ⟨callee, args, ats⟩ := c
    cases callee
    case value f => exact h
    all_goals exact hgen h
  all_goals exact hgen h
theorem nilK_mono {d : Option Tmp} {op : Op} {s : St} {k k' : St → Prop} (h : nilK P d op s k) (hk : ∀ s, k s → k' s) : nilK P d op s k' := by
  unfold nilK at *
  split at h
  · split at h
    · intro b hb
      have := h b hb
      split at this
      · exact hk _ this
      · exact this.elim
    · exact h
  · exact h
theorem stepK_mono {K : List Nat} {o : Oper} {s : St} {k k' : St → Prop} (h : stepK P K o s k) (hk : ∀ s, k s → k' s) : stepK P K o s k' := by
  have hgen : (match aop P o s with | some s' => k s' | none => nilK P o.dst o.op s k) → (match aop P o s with | some s' => k' s' | none => nilK P o.dst o.op s k') := fun h => by
    split at h
    · exact hk _ h
    · exact nilK_mono h hk
  have hCall : ∀ d s f args, Call P K d s f args k → Call P K d s f args k' := fun d s f args ⟨h1, h2⟩ => ⟨h1, fun g vals w a next a1 a2 a3 a4 a5 => h2 g vals w a next a1 a2 a3 a4 fun s' g' a' w' q1 q2 q3 => a5 s' g' a' w' q1 q2 (hk s' q3)⟩
  obtain ⟨d, op, ty, pos, after, guard⟩ := o
  cases op
  case call c =>
    obtain ⟨callee, args, ats⟩ := c
    cases callee
    case value f =>
      simp only [stepK, callK] at h ⊢
      split at h
      · exact hCall _ _ _ _ h
      · exact hCall _ _ _ _ h
      · exact h
    all_goals exact hgen h
  all_goals exact hgen h
theorem WR_mono {K : List Nat} {ops : Array Oper} : ∀ {l : List Oper} {s : St} {k k' : St → Prop}, (∀ s, k s → k' s) → WR P K ops l s k → WR P K ops l s k'
  | [], s, k, k', hk, h => hk s h
  | o :: r, s, k, k', hk, h => by
    simp only [WR] at h ⊢
    split at h
    · exact stepK_mono h fun s' h' => WR_mono hk h'
    · split at h
      · refine ⟨fun e => stepK_mono (h.1 e) fun s' h' => WR_mono hk h', fun e => ?_⟩
        have := h.2 e
        split at this
        · exact WR_mono hk this
        · exact this
      · exact h
theorem WRs_WR {K : List Nat} {ops : Array Oper} : ∀ {l : List Oper} {sl : List Sop} {s : St} {k : St → Prop}, copS ops l = some sl → WRs P K sl s k → WR P K ops l s k
  | [], sl, s, k, hc, h => by simp only [copS, Option.some.injEq] at hc; subst hc; exact h
  | o :: r, sl, s, k, hc, h => by
    have hm : ∀ {s : St} {k k' : St → Prop}, stepK P K o s k → (∀ s, k s → k' s) → stepK P K o s k' := fun h hk => stepK_mono h hk
    simp only [copS] at hc
    split at hc
    · rename_i l h1 h2
      simp only [Option.some.injEq] at hc; subst hc
      simp only [WR, h1]
      exact hm (stepS_K h) fun s' hs' => WRs_WR h2 hs'
    · rename_i j w l h1 h2
      split at hc
      · rename_i t ht
        simp only [Option.some.injEq] at hc; subst hc
        simp only [WR, h1]
        simp only [WRs, gdOf] at h
        split at h
        · rename_i b hb
          have hg : gd ops s j w = some b := by simp only [gd, ht]; exact hb
          rw [hg]
          refine ⟨fun e => hm (stepS_K (h.1 e)) fun s' hs' => WRs_WR h2 hs', fun e => ?_⟩
          have := h.2 e
          unfold opt at this
          split at this
          · rename_i s' hs'; rw [hs']; exact WRs_WR h2 this
          · exact this.elim
        · exact h.elim
      · cases hc
    · cases hc

end Go.Wl

/- Values and memory told without addresses: operations in any order. -/
set_option linter.unusedVariables false
set_option linter.unusedSimpArgs false
namespace Go.Wl
variable {P : Program}

/-- Operations that change nothing. -/
def isPure : Op → Bool
  | .move _ | .assign _ | .pick _ _ _ | .nilCheck _ | .binOp _ _ _ _ _ | .unOp _ _ _ | .convert _ _ _ | .load _ _ | .fieldAddr _ _ _ | .field _ _ _ | .indexAddr _ _ _ | .index _ _ _ | .slice _ _ _ _ _ | .extract _ _ | .makeFunc _ _ _ | .makeInterface _ _ | .build _ _ => true
  | .call c => (match c.callee with
    | .builtin .len | .builtin .min | .builtin .max => true
    | _ => false)
  | _ => false
def acvP (P : Program) (src ty : TypeId) (x : AV) : Option AV :=
  match x with
  | .slc _ _ _ _ => none
  | .d (.str bs) => bif cvB P src ty then none else acv P src ty (.d (.str bs))
  | x => acv P src ty x
def abval (P : Program) (b : Builtin) (ts : List TypeId) (xs : List AV) : Option AV :=
  match b, ts, xs with
  | .len, [t], [x] => alen P t x
  | .min, _, [x, y] => aminmax false x y
  | .max, _, [x, y] => aminmax true x y
  | _, _, _ => none
/-- What such an operation yields. -/
def aval (P : Program) (op : Op) (s : St) : Option AV :=
  match op with
  | .move x => some (s.ev x)
  | .assign x => some (s.ev x)
  | .pick c a b => apick (s.ev c) (s.ev a) (s.ev b)
  | .nilCheck x => ank (s.ev x)
  | .binOp op t x y _ => abin P op t x y (s.ev x) (s.ev y)
  | .unOp op _ x => aun op (s.ev x)
  | .convert src ty x => acvP P src ty (s.ev x)
  | .load t x => aload P t s (s.ev x)
  | .fieldAddr t x f => afield P t f (s.ev x)
  | .field t x f => afieldV P t f (s.ev x)
  | .indexAddr t x i => aindex2 P t (s.ev x) (s.ev i)
  | .index t x i => aindexV2 P t (s.ev x) (s.ev i)
  | .slice t x lo hi mx => aslice2 P t (s.ev x) (lo.map s.ev) (hi.map s.ev) (mx.map s.ev)
  | .extract x i => aext (s.ev x) i
  | .makeFunc fn f c => some (.func fn (f.toList.map s.ev) (c.toList.map s.ev))
  | .makeInterface t x => amkif P t (s.ev x)
  | .build t ps => abuild P t (ps.toList.map fun p => (p.1, s.ev p.2))
  | .call c => (match c.callee with
    | .builtin b => abval P b c.argTypes.toList (c.args.toList.map s.ev)
    | _ => none)
  | _ => none

theorem aload_congr {t : TypeId} {s s' : St} {x : AV} (h : s'.hp = s.hp) : aload P t s' x = aload P t s x := by
  unfold aload; rw [h]
theorem aval_congr {op : Op} {s s' : St} (hh : s'.hp = s.hp) (h : ∀ x ∈ op.operands, s'.ev x = s.ev x) : aval P op s' = aval P op s := by
  have pairs : ∀ ps : Array (Nat × Operand), (∀ x ∈ ps.toList.map (·.2), s'.ev x = s.ev x) → (ps.toList.map fun p => (p.1, s'.ev p.2)) = (ps.toList.map fun p => (p.1, s.ev p.2)) := fun ps hp =>
    List.map_congr_left fun p hm => by rw [hp p.2 (List.mem_map.2 ⟨p, hm, rfl⟩)]
  have optm : ∀ x : Option Operand, (∀ y ∈ x.toArray, s'.ev y = s.ev y) → x.map s'.ev = x.map s.ev := fun x hx => by
    cases x with
    | none => rfl
    | some y => simp only [Option.map_some]; rw [hx y (by simp)]
  cases op <;> simp only [Op.operands] at h <;> simp only [aval]
  case build t ps => rw [pairs ps fun x hx => h x (by simpa using hx)]
  case makeFunc fn f c =>
    rw [List.map_congr_left (l := f.toList) fun x hx => h x (by simp at hx; simp [hx]), List.map_congr_left (l := c.toList) fun x hx => h x (by simp at hx; simp [hx])]
  case slice t x lo hi mx =>
    rw [h x (by simp), optm lo fun y hy => h y (by simp only [Array.mem_append]; exact .inl (.inl (.inr hy))), optm hi fun y hy => h y (by simp only [Array.mem_append]; exact .inl (.inr hy)), optm mx fun y hy => h y (by simp only [Array.mem_append]; exact .inr hy)]
  case call c =>
    split
    · rw [List.map_congr_left (l := c.args.toList) fun x hx => h x (by simp only [Call.operands, Array.mem_append]; exact .inr (by simpa using hx))]
    · rfl
  case load t x => rw [h x (by simp)]; exact aload_congr hh
  all_goals first
    | rfl
    | (simp_all; done)

theorem aval_sound {o : Oper} {g : G} {s : St} {y : AV} {a : Act} {w : World} (h : Sim g s a w) (ha : aval P o.op s = some y) : ∃ u, (execOp a.eval o).run P w = .ok (.value u) w ∧ Rel g w u y := by
  have go : ∀ {m : Sem Value}, execOp a.eval o = (do pure (.value (← m))) → (∃ u, m.run P w = .ok u w ∧ Rel g w u y) → ∃ u, (execOp a.eval o).run P w = .ok (.value u) w ∧ Rel g w u y := fun hm ⟨u, h1, h2⟩ => ⟨u, by rw [hm]; simp [h1], h2⟩
  obtain ⟨dst, op, type, pos, after, guard⟩ := o
  cases op <;> simp only [aval] at ha
  case binOp op t x y yt =>
    have h1 := ha
    exact go (m := do eqGuard op t x y (a.eval x) (a.eval y); binOp op t (a.eval x) (a.eval y)) (by simp [execOp]) (abin_sound (ev_rel h x) (ev_rel h y) (fun v e => by rw [e]; rfl) h1)
  case unOp op t x =>
    have h1 := ha
    exact go (m := Op.unary op (a.eval x)) (by simp [execOp]) (aun_sound (ev_rel h x) h1)
  case load t x =>
    have h1 := ha
    exact go (m := Instr.loadAt t (a.eval x)) (by simp [execOp]) (aload_sound h.hp (ev_rel h x) h1)
  case fieldAddr t x f =>
    have h1 := ha
    exact go (m := Instr.fieldAt t (a.eval x) f) (by simp [execOp]) (afield_sound (ev_rel h x) h1)
  case field t x f =>
    have h1 := ha
    exact go (m := Instr.field t (a.eval x) f) (by simp [execOp]) (afieldV_sound (ev_rel h x) h1)
  case extract x i =>
    have h1 := ha
    exact go (m := Instr.extract (a.eval x) i) (by simp [execOp]) (aext_sound (ev_rel h x) h1)
  case makeInterface t x =>
    have h1 := ha
    exact go (m := Instr.makeInterface t (a.eval x)) (by simp [execOp]) (amkif_sound (ev_rel h x) h1)
  case move x => simp only [Option.some.injEq] at ha; subst ha; exact go (m := pure (a.eval x)) (by simp [execOp]) ⟨a.eval x, by simp, ev_rel h x⟩
  case assign x => simp only [Option.some.injEq] at ha; subst ha; exact go (m := pure (a.eval x)) (by simp [execOp]) ⟨a.eval x, by simp, ev_rel h x⟩
  case pick c x y =>
    have h1 := ha
    have hc := ev_rel h c
    have hx := ev_rel h x
    have hy := ev_rel h y
    refine go (m := do pure (if ← asBool (a.eval c) then a.eval x else a.eval y)) (by simp [execOp]) ?_
    generalize a.eval x = vx at *
    generalize a.eval y = vy at *
    generalize a.eval c = vc at *
    generalize s.ev c = cc at h1 hc
    unfold apick at h1
    split at h1
    · rename_i t
      cases hc with
      | d hc =>
        cases hc
        refine ⟨if t then vx else vy, by simp [asBool], ?_⟩
        split at h1
        · rename_i p q hp hq
          simp only [Option.some.injEq] at h1; subst h1
          rw [hp] at hx
          rw [hq] at hy
          cases t
          · exact hy
          · exact hx
        · simp only [Option.some.injEq] at h1; subst h1
          cases t
          · exact hy
          · exact hx
    · cases h1
  case nilCheck x =>
    have h1 := ha
    have hx := ev_rel h x
    refine go (m := pure (a.eval x)) ?_ ⟨a.eval x, by simp, ?_⟩
    · simp only [execOp]
      generalize a.eval x = v at hx
      generalize s.ev x = y at h1 hx
      unfold ank at h1
      split at h1
      · cases hx; rfl
      · cases hx with
        | d hx => cases hx; rfl
      · cases hx; rfl
      · cases hx with
        | d hx => cases hx; rfl
      · cases h1
    · generalize s.ev x = y at h1 hx
      unfold ank at h1
      split at h1 <;> first | (simp only [Option.some.injEq] at h1; subst h1; exact hx) | cases h1
  case indexAddr t x i =>
    rw [aindex2_eq] at ha
    exact go (m := Instr.indexAt t (a.eval x) (a.eval i)) (by simp [execOp]) (aindex_sound (ev_rel h x) (ev_rel h i) ha)
  case index t x i =>
    rw [aindexV2_eq] at ha
    exact go (m := Instr.index t (a.eval x) (a.eval i)) (by simp [execOp]) (aindexV_sound (ev_rel h x) (ev_rel h i) ha)
  case slice t x lo hi mx =>
    rw [aslice2_eq] at ha
    exact go (m := Instr.sliceAt t (a.eval x) (lo.map a.eval) (hi.map a.eval) (mx.map a.eval)) (by simp [execOp]) (aslice_sound (ev_rel h x) (relO_map h lo) (relO_map h hi) (relO_map h mx) ha)
  case build t ps =>
    obtain ⟨p1, p2⟩ := parts_rel h ps
    exact go (m := Instr.build t (ps.map fun (i, x) => (i, a.eval x))) (by simp [execOp]) (abuild_sound p1 p2 ha)
  case makeFunc fn f c =>
    simp only [Option.some.injEq] at ha; subst ha
    refine go (m := Instr.makeFunc fn (f.map a.eval) (c.map a.eval)) (by simp [execOp]) ⟨.func fn (f.map a.eval) (c.map a.eval), by simp [Instr.makeFunc], .func (by simp) (by simp) (fun j x hj => ?_) (fun j x hj => ?_)⟩
    all_goals
      simp only [List.getElem?_map, Option.map_eq_some_iff] at hj
      obtain ⟨y, h1, rfl⟩ := hj
      rw [Array.getElem?_toList] at h1
      rw [Array.getD_eq_getD_getElem?, Array.getElem?_map, h1]
      exact ev_rel h y
  case convert src ty x =>
    have hx := ev_rel h x
    unfold acvP at ha
    split at ha
    · cases ha
    · rename_i bs hbs
      rw [hbs] at hx
      cases hc : cvB P src ty
      · rw [hc] at ha
        simp only [cond_false] at ha
        exact go (m := convert src ty (a.eval x)) (by simp [execOp]) (acv_sound hx ha)
      · rw [hc] at ha
        cases ha
    · exact go (m := convert src ty (a.eval x)) (by simp [execOp]) (acv_sound hx ha)
  case call c =>
    obtain ⟨callee, args, ats⟩ := c
    cases callee with
    | builtin b =>
      simp only [abval] at ha
      have hargs : ∀ l : List Operand, args.toList = l → args = l.toArray := fun l e => by rw [← e]
      split at ha
      · rename_i t x hts hxs
        have hat : ats = #[t] := by rw [← Array.toArray_toList (xs := ats), hts]
        subst hat
        rcases hA : args.toList with _ | ⟨o0, _ | ⟨o1, r⟩⟩ <;> rw [hA] at hxs <;> simp only [List.map_nil, List.map_cons, List.cons.injEq, reduceCtorEq, and_false, and_true] at hxs
        subst hxs
        have := hargs _ hA
        subst this
        exact go (m := Builtin.len_ #[t] type #[a.eval o0]) (by simp [execOp, resolve, invoke, builtin]) (alen_sound (ev_rel h o0) ha)
      · rename_i x y hxs
        rcases hA : args.toList with _ | ⟨o0, _ | ⟨o1, _ | ⟨o2, r⟩⟩⟩ <;> rw [hA] at hxs <;> simp only [List.map_nil, List.map_cons, List.cons.injEq, reduceCtorEq, and_false, and_true] at hxs
        obtain ⟨rfl, rfl⟩ := hxs
        have := hargs _ hA
        subst this
        exact go (m := Builtin.min_ ats type #[a.eval o0, a.eval o1]) (by simp [execOp, resolve, invoke, builtin]) ((minmax_sound (ev_rel h o0) (ev_rel h o1)).1 ha)
      · rename_i x y hxs
        rcases hA : args.toList with _ | ⟨o0, _ | ⟨o1, _ | ⟨o2, r⟩⟩⟩ <;> rw [hA] at hxs <;> simp only [List.map_nil, List.map_cons, List.cons.injEq, reduceCtorEq, and_false, and_true] at hxs
        obtain ⟨rfl, rfl⟩ := hxs
        have := hargs _ hA
        subst this
        exact go (m := Builtin.max_ ats type #[a.eval o0, a.eval o1]) (by simp [execOp, resolve, invoke, builtin]) ((minmax_sound (ev_rel h o0) (ev_rel h o1)).2 ha)
      · cases ha
    | _ => cases ha
  all_goals cases ha
end Go.Wl

/- Values and memory told without addresses: operations in any order, the invariant. -/
set_option linter.unusedVariables false
set_option linter.unusedSimpArgs false
namespace Go.Wl
variable {P : Program}

def pre (o : Oper) : List Nat := (o.after.toList.filter (Region.binds .any)).map (·.on)
/-- What an operation waits for. -/
inductive Kd where
  | ch (ds : List Nat) (p : Bool)
  | pu
  | la (ls : List Nat)
def Kd.st (k : Kd) (s : St) : St := match k with
  | .la _ => { s with hp := [] }
  | _ => s
/-- What a pure operation yields, its guard looked at. -/
def Redo (P : Program) (ops : Array Oper) (o : Oper) (s : St) (v : AV) : Prop :=
  match o.guard with
  | none => aval P o.op s = some v
  | some (j, want) => ∃ b, gd ops s j want = some b ∧ (b = true → aval P o.op s = some v) ∧ (b = false → v = und)

theorem operand_looks {ops : Array Oper} {o : Oper} {t : Tmp} (h : Operand.tmp t ∈ o.op.operands) : t ∈ o.looksAt ops :=
  List.mem_append_left _ (List.mem_filterMap.2 ⟨.tmp t, by simpa using h, rfl⟩)
theorem guard_looks {ops : Array Oper} {o : Oper} {j : Nat} {w : Bool} {t : Tmp} (h : o.guard = some (j, w)) (ht : (ops[j]?).bind (·.dst) = some t) : t ∈ o.looksAt ops := by
  unfold Oper.looksAt
  rw [h]
  simp only [ht]
  simp
theorem ev_looks {ops : Array Oper} {o : Oper} {s s' : St} (h : ∀ t ∈ o.looksAt ops, s'.get t = s.get t) (x : Operand) (hx : x ∈ o.op.operands) : s'.ev x = s.ev x := by
  cases x with
  | tmp t => exact h t (operand_looks hx)
  | _ => rfl
theorem gd_looks {ops : Array Oper} {o : Oper} {s s' : St} (h : ∀ t ∈ o.looksAt ops, s'.get t = s.get t) {j : Nat} {w : Bool} (hg : o.guard = some (j, w)) : gd ops s' j w = gd ops s j w := by
  unfold gd
  cases ht : (ops[j]?).bind (·.dst) with
  | none => rfl
  | some t => simp only [h t (guard_looks hg ht)]
theorem Redo.congr {ops : Array Oper} {o : Oper} {s s' : St} {v : AV} (hh : s'.hp = s.hp) (h : ∀ t ∈ o.looksAt ops, s'.get t = s.get t) (hr : Redo P ops o s v) : Redo P ops o s' v := by
  have he : aval P o.op s' = aval P o.op s := aval_congr hh (ev_looks h)
  unfold Redo at *
  split at hr
  · rename_i hg
    rw [he]; exact hr
  · rename_i j w hg
    rw [he, gd_looks h hg]; exact hr
/-- Done, whenever it is. -/
theorem Redo.run {ops : Array Oper} {o : Oper} {i : Nat} (ho : ops[i]? = some o) {s : St} {v : AV} (hr : Redo P ops o s v) {g : G} {a : Act} {w : World} (h : Sim g s a w) (Q : Exit → Act → World → Prop) :
    ∃ u, Rel g w u v ∧ ∀ K : Act → World → Prop, K (a.put o.dst u) w → wpOp P ops Q i K a w := by
  have hyes : aval P o.op s = some v → Region.wanted o (yielded ops a.tmps) = true → ∃ u, Rel g w u v ∧ ∀ K : Act → World → Prop, K (a.put o.dst u) w → wpOp P ops Q i K a w := fun hv hw => by
    obtain ⟨u, h1, h2⟩ := aval_sound h hv
    refine ⟨u, h2, fun K hK => ?_⟩
    unfold wpOp
    simp only [ho, hw, if_true, Oper.wp, h1, Oper.upon]
    exact .inl hK
  unfold Redo at hr
  split at hr
  · rename_i hg
    exact hyes hr (by unfold Region.wanted; rw [hg])
  · rename_i j want hg
    obtain ⟨b, hb, h1, h2⟩ := hr
    have hwant : Region.wanted o (yielded ops a.tmps) = b := by
      unfold Region.wanted
      rw [hg]
      exact gd_spec h hb
    cases b with
    | true => exact hyes (h1 rfl) hwant
    | false =>
      refine ⟨undef, by rw [h2 rfl]; exact und_rel _ _, fun K hK => ?_⟩
      unfold wpOp
      simp only [ho, hwant, Bool.false_eq_true, if_false]
      exact hK

/-- What may be done still. -/
structure Rec where
  i : Nat
  o : Oper
  s : St
  v : AV
structure J (P : Program) (ops : Array Oper) (g : G) (s : St) (ps : List Rec) (a : Act) (w : World) : Prop where
  n : a.tmps.size = s.n
  df : a.defers = []
  hp : SimH g s.hp w
  tm : ∀ t, (∀ r ∈ ps, r.o.dst ≠ some t) → Rel g w (a.tmps.getD t undef) (s.get t)
  op : ∀ r ∈ ps, ops[r.i]? = some r.o
  sn : ∀ r ∈ ps, r.s.n = s.n
  dv : ∀ r ∈ ps, ∀ d, r.o.dst = some d → d < s.n ∧ s.get d = r.v
  re : ∀ r ∈ ps, Redo P ops r.o r.s r.v
  sh : ∀ r ∈ ps, r.s.hp = [] ∨ r.s.hp = s.hp
  no : ∀ r ∈ ps, ∀ t, t ∉ r.o.looksAt ops → r.s.get t = .any
  lo : ∀ r ∈ ps, ∀ t ∈ r.o.looksAt ops, (∃ r' ∈ ps, r'.o.dst = some t ∧ r'.i ∈ pre r.o ∧ r'.v = r.s.get t) ∨
    ((∀ r' ∈ ps, r'.o.dst = some t → r.i ∈ pre r'.o) ∧ Rel g w (a.tmps.getD t undef) (r.s.get t))
  ds : ∀ r ∈ ps, ∀ r' ∈ ps, r.i ≠ r'.i → r.o.dst ≠ none → r.o.dst ≠ r'.o.dst

theorem getD_put {a : Act} {x : Option Tmp} {v : Value} {t : Nat} (h : x ≠ some t) : (a.put x v).tmps.getD t undef = a.tmps.getD t undef := by
  cases x with
  | none => rfl
  | some d =>
    have : d ≠ t := fun e => h (e ▸ rfl)
    simp [Act.put, Array.getElem?_setIfInBounds_ne this]
theorem getD_put_same {a : Act} {t : Nat} {v : Value} (h : t < a.tmps.size) : (a.put (some t) v).tmps.getD t undef = v := by
  simp [Act.put, h]
theorem put_size {a : Act} {x : Option Tmp} {v : Value} : (a.put x v).tmps.size = a.tmps.size := by cases x <;> simp [Act.put]
theorem put_defers {a : Act} {x : Option Tmp} {v : Value} : (a.put x v).defers = a.defers := by cases x <;> rfl
theorem SimH.none {g : G} {hp : Hp} {w : World} (h : SimH g hp w) : SimH g [] w := (h.less (hp' := []) fun n ob hn => by cases hn).1

theorem J.sim {ops : Array Oper} {g : G} {s : St} {ps : List Rec} {a : Act} {w : World} (h : J P ops g s ps a w) {r : Rec} (hr : r ∈ ps) (hp : ∀ r' ∈ ps, r'.i ∉ pre r.o) : Sim g r.s a w := by
  refine ⟨by rw [h.sn r hr]; exact h.n, h.df, fun t => ?_, ?_⟩
  · by_cases ht : t ∈ r.o.looksAt ops
    · rcases h.lo r hr t ht with ⟨r', h1, _, h2, _⟩ | ⟨_, h2⟩
      · exact absurd h2 (hp r' h1)
      · exact h2
    · rw [h.no r hr t ht]; exact .any
  · rcases h.sh r hr with e | e
    · rw [e]; exact h.hp.none
    · rw [e]; exact h.hp
def rmv (ps : List Rec) (i : Nat) : List Rec := ps.filter fun x => !(Nat.beq x.i i)
theorem mem_rmv {ps : List Rec} {i : Nat} {r : Rec} : r ∈ rmv ps i ↔ r ∈ ps ∧ r.i ≠ i := by
  unfold rmv
  simp only [List.mem_filter, Bool.not_eq_true']
  refine and_congr_right fun _ => ⟨fun h e => ?_, fun h => ?_⟩
  · subst e; simp at h
  · cases hb : Nat.beq r.i i
    · rfl
    · exact absurd (Nat.eq_of_beq_eq_true hb) h
/-- One of them is done. -/
theorem J.redo {ops : Array Oper} {g : G} {s : St} {ps : List Rec} {a : Act} {w : World} (h : J P ops g s ps a w) {r : Rec} (hr : r ∈ ps) (hp : ∀ r' ∈ ps, r'.i ∉ pre r.o) (huniq : ∀ r' ∈ ps, r'.i = r.i → r' = r) (hself : r.i ∉ pre r.o) (Q : Exit → Act → World → Prop) :
    ∃ u, (∀ K : Act → World → Prop, K (a.put r.o.dst u) w → wpOp P ops Q r.i K a w) ∧ J P ops g s (rmv ps r.i) (a.put r.o.dst u) w := by
  obtain ⟨u, h1, h2⟩ := (h.re r hr).run (h.op r hr) (h.sim hr hp) Q
  refine ⟨u, h2, ?_⟩
  have hsub : ∀ r' ∈ rmv ps r.i, r' ∈ ps := fun r' h => (mem_rmv.1 h).1
  refine ⟨put_size.trans h.n, put_defers.trans h.df, h.hp, fun t ht => ?_, fun r' q => h.op r' (hsub r' q), fun r' q => h.sn r' (hsub r' q), fun r' q => h.dv r' (hsub r' q), fun r' q => h.re r' (hsub r' q), fun r' q => h.sh r' (hsub r' q), fun r' q => h.no r' (hsub r' q), fun r' q t ht => ?_, fun x hx y hy => h.ds x (hsub x hx) y (hsub y hy)⟩
  · by_cases e : r.o.dst = some t
    · obtain ⟨q1, q2⟩ := h.dv r hr t e
      rw [e, getD_put_same (by rw [h.n]; exact q1), q2]
      exact h1
    · rw [getD_put e]
      refine h.tm t fun r' hr' => ?_
      by_cases e' : r'.i = r.i
      · rw [huniq r' hr' e']; exact e
      · exact ht r' (mem_rmv.2 ⟨hr', e'⟩)
  · obtain ⟨hq, hne⟩ := mem_rmv.1 q
    rcases h.lo r' hq t ht with ⟨r'', k1, k2, k3, k4⟩ | ⟨k1, k2⟩
    · by_cases e : r''.i = r.i
      · have := huniq r'' k1 e
        subst this
        refine .inr ⟨fun x hx hd => ?_, ?_⟩
        · exact absurd (k2.trans hd.symm) (h.ds _ hr x (hsub x hx) (fun e => (mem_rmv.1 hx).2 e.symm) (by rw [k2]; simp))
        · obtain ⟨q1, q2⟩ := h.dv _ hr t k2
          rw [k2, getD_put_same (by rw [h.n]; exact q1), ← k4]
          exact h1
      · exact .inl ⟨r'', mem_rmv.2 ⟨k1, e⟩, k2, k3, k4⟩
    · refine .inr ⟨fun x hx hd => k1 x (hsub x hx) hd, ?_⟩
      rw [getD_put]
      · exact k2
      · intro e
        exact hp r' hq (k1 r hr e)

/-- All of them are done: the walk's own slots. -/
theorem J.fill {ops : Array Oper} {g : G} {s : St} {w : World} (hlt : ∀ (i : Nat) (o : Oper), ops[i]? = some o → ∀ p ∈ pre o, p < i) : ∀ (n : Nat) {ps : List Rec} {a : Act}, ps.length ≤ n → (∀ r ∈ ps, ∀ r' ∈ ps, r'.i = r.i → r' = r) → J P ops g s ps a w →
    ∃ b : Act, Sim g s b w ∧ b.tmps.size = a.tmps.size ∧ ∀ t, (∀ r ∈ ps, r.o.dst ≠ some t) → b.tmps.getD t undef = a.tmps.getD t undef := by
  intro n
  induction n with
  | zero =>
    intro ps a hl hu h
    have : ps = [] := List.eq_nil_of_length_eq_zero (by omega)
    subst this
    exact ⟨a, ⟨h.n, h.df, fun t => h.tm t (by simp), h.hp⟩, rfl, fun _ _ => rfl⟩
  | succ n ih =>
    intro ps a hl hu h
    by_cases he : ps = []
    · subst he
      exact ⟨a, ⟨h.n, h.df, fun t => h.tm t (by simp), h.hp⟩, rfl, fun _ _ => rfl⟩
    · have : ∃ n, ∃ r ∈ ps, r.i = n := by
        cases ps with
        | nil => exact absurd rfl he
        | cons r _ => exact ⟨r.i, r, by simp, rfl⟩
      obtain ⟨m, ⟨r, hr, e⟩, hmin⟩ := least _ this
      have hlow : ∀ r' ∈ ps, r'.i ∉ pre r.o := fun r' hr' hm => by
        have h1 := hlt r.i r.o (h.op r hr) r'.i hm
        have h2 := hmin r'.i ⟨r', hr', rfl⟩
        omega
      obtain ⟨u, _, hJ⟩ := h.redo hr hlow (fun r' hr' e => hu r hr r' hr' e) (fun hm => Nat.lt_irrefl _ (hlt r.i r.o (h.op r hr) r.i hm)) (fun _ _ _ => True)
      have hlen : (rmv ps r.i).length < ps.length := by
        have : (rmv ps r.i).length ≠ ps.length := fun e => by
          have := (List.length_filter_eq_length_iff (p := fun x : Rec => !(Nat.beq x.i r.i))).1 e r hr
          simp at this
        have h2 : (rmv ps r.i).length ≤ ps.length := List.length_filter_le _ _
        omega
      obtain ⟨b, hb, hsz, hag⟩ := ih (ps := rmv ps r.i) (by omega) (fun x hx y hy e => hu x (mem_rmv.1 hx).1 y (mem_rmv.1 hy).1 e) hJ
      refine ⟨b, hb, hsz.trans put_size, fun t ht => ?_⟩
      rw [hag t fun r' hr' => ht r' (mem_rmv.1 hr').1, getD_put (ht r hr)]
end Go.Wl

/- Values and memory told without addresses: operations in any order, the rule. -/
set_option linter.unusedVariables false
set_option linter.unusedSimpArgs false
namespace Go.Wl
variable {P : Program}

theorem eval_off {ops : Array Oper} {o : Oper} {a b : Act} (hag : ∀ t ∈ o.looksAt ops, b.tmps.getD t undef = a.tmps.getD t undef) (x : Operand) (hx : x ∈ o.op.operands) : b.eval x = a.eval x := by
  cases x with
  | tmp t => exact hag t (operand_looks hx)
  | _ => rfl
theorem getq {a b : Array Value} {t : Nat} (hs : b.size = a.size) (h : b.getD t undef = a.getD t undef) : b[t]? = a[t]? := by
  rw [Array.getD_eq_getD_getElem?, Array.getD_eq_getD_getElem?] at h
  by_cases e : t < a.size
  · have e' : t < b.size := by omega
    simp only [Array.getElem?_eq_getElem e, Array.getElem?_eq_getElem e', Option.getD_some] at h ⊢
    rw [h]
  · have e' : ¬ t < b.size := by omega
    simp [Array.getElem?_eq_none (Nat.le_of_not_lt e), Array.getElem?_eq_none (Nat.le_of_not_lt e')]
theorem wanted_off {ops : Array Oper} {o : Oper} {a b : Act} (hag : ∀ t ∈ o.looksAt ops, b.tmps.getD t undef = a.tmps.getD t undef) (hsz : b.tmps.size = a.tmps.size) : Region.wanted o (yielded ops b.tmps) = Region.wanted o (yielded ops a.tmps) := by
  unfold Region.wanted
  cases hg : o.guard with
  | none => rfl
  | some p =>
    obtain ⟨j, w⟩ := p
    have : yielded ops b.tmps j = yielded ops a.tmps j := by
      unfold yielded
      cases ht : (ops[j]?).bind (·.dst) with
      | none => rfl
      | some t => simp only [Option.bind_some, getq hsz (hag t (guard_looks hg ht))]
    simp only [this]
theorem getD_put_out {a : Act} {t : Nat} {v : Value} (h : ¬ t < a.tmps.size) : (a.put (some t) v).tmps.getD t undef = undef := by
  have : (a.put (some t) v).tmps.size ≤ t := by rw [put_size]; omega
  rw [Array.getD_eq_getD_getElem?, Array.getElem?_eq_none this]; rfl
theorem wpOp_off {ops : Array Oper} {o : Oper} {i : Nat} (ho : ops[i]? = some o) (hsel : ∀ cs b, o.op ≠ .select cs b) {a b : Act} (hag : ∀ t ∈ o.looksAt ops, b.tmps.getD t undef = a.tmps.getD t undef) (hsz : b.tmps.size = a.tmps.size)
    {next next' : Act → World → Prop} (hn : ∀ v w', next (b.put o.dst v) w' → next' (a.put o.dst v) w') (hd : ∀ d v w', ¬ next (({ b with defers := d :: b.defers } : Act).put o.dst v) w') {w : World} {Q : Exit → Act → World → Prop}
    (h : wpOp P ops (fun _ _ _ => False) i next b w) : wpOp P ops Q i next' a w := by
  unfold wpOp at *
  simp only [ho] at *
  rw [wanted_off hag hsz] at h
  split
  · rename_i hw
    simp only [hw, if_true] at h
    rcases h with h | ⟨_, _, _, h⟩
    case inr => exact h.elim
    refine .inl ?_
    unfold Oper.wp at *
    rw [execOp_congr o hsel (fun x hx => eval_off hag x hx)] at h
    generalize (execOp a.eval o).run P w = r at *
    cases r with
    | ok n w' =>
      cases n <;> simp only [Oper.upon] at h ⊢
      case value u => exact hn u w' h
      case skip => exact hn undef w' h
      case defer d => exact absurd h (hd d undef w')
      case enter f args =>
        refine Calls.mono h fun e w'' he => ?_
        cases e with
        | returned u => exact hn u w'' he
        | panicked c => exact he.elim
        | outgrown => obtain ⟨_, _, h⟩ := he; exact h.elim
      case row row args => exact Rows.mono h fun u w'' he => hn u w'' he
    | halt x w' => cases x <;> simp only [Oper.upon] at h ⊢
  · rename_i hw
    simp only [hw] at h
    exact hn undef w h

theorem WR1_sound {K : List Nat} {ops : Array Oper} {o : Oper} {i : Nat} (ho : ops[i]? = some o) {s : St} {k : St → Prop} (h : WR P K ops [o] s k) {g : G} {a : Act} {w : World} (hk : KIn K s.hp) (hs : Sim g s a w) {Q : Exit → Act → World → Prop} :
    wpOp P ops Q i (fun a' w' => ∃ s' g', Sim g' s' a' w' ∧ To K g s.hp w g' s'.hp w' ∧ k s') a w := by
  unfold wpOp
  simp only [ho]
  have hstep : stepK P K o s (fun s' => WR P K ops [] s' k) → o.wp P a w (fun a' w' => ∃ s' g', Sim g' s' a' w' ∧ To K g s.hp w g' s'.hp w' ∧ k s') Q := fun h1 =>
    stepK_sound h1 hk hs fun s' g' a' w' q1 q2 q3 => ⟨s', g', q1, q2, q3⟩
  simp only [WR] at h hstep
  split at h
  · rename_i hg
    have : Region.wanted o (yielded ops a.tmps) = true := by unfold Region.wanted; rw [hg]
    rw [if_pos this]
    exact .inl (hstep h)
  · rename_i j want hg
    split at h
    · rename_i b hb
      have hy := gd_spec hs hb
      have hwant : Region.wanted o (yielded ops a.tmps) = b := by
        unfold Region.wanted
        rw [hg]
        exact hy
      rw [hwant]
      cases b with
      | true =>
        simp only [if_true]
        exact .inl (hstep (h.1 rfl))
      | false =>
        simp only [Bool.false_eq_true, if_false]
        have h2 := h.2 rfl
        split at h2
        · rename_i s' hs'
          obtain ⟨q1, q2⟩ := setv_sound (v := undef) hs (und_rel _ _) hs'
          exact ⟨s', g, q1, by rw [q2]; exact To.refl hk, h2⟩
        · exact h2.elim
    · exact h.elim

/-- An operation that does something, others being done or not. -/
theorem J.chain {K D : List Nat} {m : Bool} {ops : Array Oper} {g : G} {s : St} {ps : List Rec} {a : Act} {w : World} (h : J P ops g s ps a w) (hk : KIn K s.hp) {o : Oper} {i : Nat} (ho : ops[i]? = some o) (hsel : ∀ cs b, o.op ≠ .select cs b) {k : St → Prop}
    (hW : WR P K ops [o] s fun s' => (∀ t ∈ D, s'.get t = s.get t) ∧ (m = true → s'.hp = s.hp) ∧ k s') (hlt : ∀ (i : Nat) (o : Oper), ops[i]? = some o → ∀ p ∈ pre o, p < i) (hu : ∀ r ∈ ps, ∀ r' ∈ ps, r'.i = r.i → r' = r)
    (hlate : ∀ r ∈ ps, (r.s.hp = [] ∨ m = true) ∧ ∀ t ∈ r.o.looksAt ops, ∀ n ∈ (r.s.get t).refs, n ∈ K) (hD : ∀ r ∈ ps, ∀ d, r.o.dst = some d → d ∈ D)
    (hoff : ∀ r ∈ ps, ∀ d, r.o.dst = some d → d ∉ o.looksAt ops) (hdst : ∀ r ∈ ps, ∀ t ∈ r.o.looksAt ops, o.dst ≠ some t) {Q : Exit → Act → World → Prop} :
    wpOp P ops Q i (fun a' w' => ∃ s' g', J P ops g' s' ps a' w' ∧ To K g s.hp w g' s'.hp w' ∧ k s' ∧ (∀ t ∈ D, s'.get t = s.get t) ∧ (∀ t, o.dst ≠ some t → a'.tmps.getD t undef = a.tmps.getD t undef) ∧ s'.n = s.n) a w := by
  obtain ⟨b, hb, hsz, hag⟩ := h.fill hlt ps.length (Nat.le_refl _) hu
  refine wpOp_off ho hsel (a := a) (b := b) (fun t ht => hag t fun r hr e => hoff r hr t e ht) hsz ?_ ?_ (WR1_sound ho hW hk hb)
  · rintro v w' ⟨s', g', h1, h2, h3, hm, h4⟩
    have hn : s'.n = s.n := by rw [← h1.n, put_size, hsz, h.n]
    refine ⟨s', g', ⟨?_, ?_, h1.hp, fun t ht => ?_, h.op, fun r hr => (h.sn r hr).trans hn.symm, fun r hr d hd => ?_, h.re, fun r hr => (hlate r hr).1.elim .inl fun e => (h.sh r hr).imp id fun q => q.trans (hm e).symm, h.no, fun r hr t ht => ?_, h.ds⟩, h2, h4, h3, fun t ht => getD_put ht, hn⟩
    · rw [put_size, h.n, hn]
    · rw [put_defers]; exact h.df
    · have := h1.tm t
      by_cases e : o.dst = some t
      · rw [e] at this ⊢
        by_cases e' : t < a.tmps.size
        · rw [getD_put_same (a := b) (by rw [hsz]; exact e')] at this
          rw [getD_put_same e']; exact this
        · rw [getD_put_out (a := b) (by rw [hsz]; exact e')] at this
          rw [getD_put_out e']; exact this
      · rw [getD_put e, hag t ht] at this
        rw [getD_put e]; exact this
    · obtain ⟨q1, q2⟩ := h.dv r hr d hd
      exact ⟨by rw [hn]; exact q1, by rw [h3 d (hD r hr d hd), q2]⟩
    · rcases h.lo r hr t ht with q | ⟨q1, q2⟩
      · exact .inl q
      · refine .inr ⟨q1, ?_⟩
        rw [getD_put (hdst r hr t ht)]
        exact Rel.mono (g' := g') h2.ev.S1 (fun b o hbo => h2.ev.sealed h.hp b o hbo) q2 fun n hn => h2.ks n ((hlate r hr).2 t ht n hn)
  · rintro d v w' ⟨s', g', h1, _⟩
    have := h1.df
    rw [put_defers] at this
    cases this

theorem St.get_keep {s : St} {hp : Hp} {l : List Nat} {t : Nat} : ({ s with tm := keepL s.tm l, hp := hp } : St).get t = if memb l t = true then s.get t else .any := by
  unfold St.get
  simp only [lk_keepL]
  cases memb l t <;> simp
theorem setv_get {s s' : St} {d : Option Tmp} {v : AV} (h : s.setv d v = some s') : s'.hp = s.hp ∧ s'.n = s.n ∧ (∀ t, d ≠ some t → s'.get t = s.get t) ∧ ∀ t, d = some t → t < s.n ∧ s'.get t = v := by
  unfold St.setv at h
  split at h
  · rename_i d
    cases hd : ltb d s.n
    · rw [hd] at h; cases h
    · rw [hd] at h
      simp only [cond_true, Option.some.injEq] at h; subst h
      refine ⟨rfl, rfl, fun t ht => ?_, fun t ht => ?_⟩
      · unfold St.get
        simp only [lk_lset]
        rw [if_neg (fun e : d = t => ht (by rw [e]))]
      · simp only [Option.some.injEq] at ht
        subst ht
        refine ⟨Nat.le_of_ble_eq_true hd, ?_⟩
        unfold St.get
        simp [lk_lset]
  · simp only [Option.some.injEq] at h; subst h
    exact ⟨rfl, rfl, fun _ _ => rfl, fun _ h => by cases h⟩
def snap (s : St) (hp : Hp) (ls : List Nat) : St := { s with tm := keepL s.tm ls, hp := hp }
/-- One more that may be done. -/
theorem J.pure {ops : Array Oper} {g : G} {s s' : St} {ps : List Rec} {a : Act} {w : World} (h : J P ops g s ps a w) {o : Oper} {i : Nat} (ho : ops[i]? = some o) {hp : Hp} (hhp : hp = [] ∨ hp = s.hp) {v : AV} (hr : Redo P ops o { s with hp := hp } v) (hs : s.setv o.dst v = some s')
    (hnew : ∀ r ∈ ps, r.i ≠ i) (g2 : ∀ r ∈ ps, o.dst ≠ none → o.dst ≠ r.o.dst) (g2' : ∀ r ∈ ps, r.o.dst ≠ none → r.o.dst ≠ o.dst) (g3 : ∀ r ∈ ps, ∀ t ∈ r.o.looksAt ops, o.dst = some t → r.i ∈ pre o) (g3' : ∀ r ∈ ps, ∀ t ∈ o.looksAt ops, r.o.dst = some t → r.i ∈ pre o) (gs : ∀ t ∈ o.looksAt ops, o.dst ≠ some t) :
    J P ops g s' (⟨i, o, snap s hp (o.looksAt ops), v⟩ :: ps) a w := by
  obtain ⟨e1, e2, e3, e4⟩ := setv_get hs
  have hsg : ∀ t ∈ o.looksAt ops, (snap s hp (o.looksAt ops)).get t = s.get t := fun t ht => by
    rw [snap, St.get_keep, if_pos ((memb_iff _ _).2 ht)]
  have all : ∀ {p : Rec → Prop}, p ⟨i, o, snap s hp (o.looksAt ops), v⟩ → (∀ r ∈ ps, p r) → ∀ r ∈ (⟨i, o, snap s hp (o.looksAt ops), v⟩ :: ps : List Rec), p r := fun h1 h2 r hr => by
    rcases List.mem_cons.1 hr with rfl | hr
    · exact h1
    · exact h2 r hr
  refine ⟨h.n.trans e2.symm, h.df, by rw [e1]; exact h.hp, fun t ht => ?_, all ho h.op, all e2.symm (fun r hr => (h.sn r hr).trans e2.symm), all (fun d hd => ⟨by rw [e2]; exact (e4 d hd).1, (e4 d hd).2⟩) (fun r hr d hd => ?_), all ?_ h.re, all ?_ (fun r hr => by rw [e1]; exact h.sh r hr), all (fun t ht => ?_) h.no, all (fun t ht => ?_) (fun r hr t ht => ?_), ?_⟩
  · rw [e3 t (ht _ List.mem_cons_self)]
    exact h.tm t fun r hr => ht r (List.mem_cons_of_mem _ hr)
  · obtain ⟨q1, q2⟩ := h.dv r hr d hd
    refine ⟨by rw [e2]; exact q1, ?_⟩
    rw [e3 d (fun e => g2' r hr (by rw [hd]; simp) (by rw [hd, e]))]
    exact q2
  · exact Redo.congr (s := { s with hp := hp }) rfl (fun t ht => hsg t ht) hr
  · rw [e1]; exact hhp
  · show (snap s hp (o.looksAt ops)).get t = .any
    rw [snap, St.get_keep, if_neg fun e => ht ((memb_iff _ _).1 e)]
  · by_cases e : ∃ r ∈ ps, r.o.dst = some t
    · obtain ⟨r, hr, hd⟩ := e
      refine .inl ⟨r, List.mem_cons_of_mem _ hr, hd, g3' r hr t ht hd, ?_⟩
      show r.v = (snap s hp (o.looksAt ops)).get t
      rw [hsg t ht]
      exact (h.dv r hr t hd).2.symm
    · refine .inr ⟨all (fun hd => absurd hd (gs t ht)) (fun r hr hd => absurd ⟨r, hr, hd⟩ e), ?_⟩
      show Rel g w _ ((snap s hp (o.looksAt ops)).get t)
      rw [hsg t ht]
      exact h.tm t fun r hr hd => e ⟨r, hr, hd⟩
  · rcases h.lo r hr t ht with ⟨r', q1, q2⟩ | ⟨q1, q2⟩
    · exact .inl ⟨r', List.mem_cons_of_mem _ q1, q2⟩
    · exact .inr ⟨all (fun hd => g3 r hr t ht hd) q1, q2⟩
  · intro x hx y hy hne hd
    rcases List.mem_cons.1 hx with rfl | hx
    · rcases List.mem_cons.1 hy with rfl | hy
      · exact absurd rfl hne
      · exact g2 y hy hd
    · rcases List.mem_cons.1 hy with rfl | hy
      · exact g2' x hx hd
      · exact h.ds x hx y hy hne hd
/-- Room for a variable that is made ahead of its turn. -/
def isFl (o : Oper) : Prop := (∃ t, o.op = .alloc t) ∧ o.guard = none ∧ ∃ d, o.dst = some d
structure Flt where
  i : Nat
  d : Nat
  b : Nat
structure FlOk (P : Program) (ops : Array Oper) (g : G) (s : St) (a : Act) (w : World) (f : Flt) : Prop where
  op : ∃ (o : Oper) (t : TypeId), ops[f.i]? = some o ∧ o.op = .alloc t ∧ o.guard = none ∧ o.dst = some f.d ∧ ∃ (cs : List AV) (c : Array Value) (e : TypeId), zv P t = some cs ∧ w.heap[f.b]? = some (.cells c e (0, 0)) ∧ cs.length = c.size ∧
    ∀ (g : G) (w : World) (j : Nat) (x : AV), cs[j]? = some x → Rel g w (c.getD j undef) x
  an : s.get f.d = .any
  sl : a.tmps.getD f.d undef = .pointer (some ⟨f.b, 0, none⟩)
  no : ∀ o, ¬ Own g s.hp f.b o
  ns : ∀ o, ¬ g.S f.b o
theorem SimH.adopt {g : G} {hp : Hp} {w : World} (h : SimH g hp w) {n b : Nat} (hn : lk hp n = Option.none) (hr : n ∉ hpRefs hp) (vs : List AV) {c : Array Value} {e : TypeId} (hb : w.heap[b]? = some (.cells c e (0, 0))) (hl : vs.length = c.size)
    (hv : ∀ (g : G) (w : World) (j : Nat) (x : AV), vs[j]? = some x → Rel g w (c.getD j undef) x) (hno : ∀ o, ¬ Own g hp b o) (hns : ∀ o, ¬ g.S b o) :
    SimH (g.setρ n b) (lset hp n (.cells vs)) w ∧ ∀ b' o, Own (g.setρ n b) (lset hp n (.cells vs)) b' o → Own g hp b' o ∨ b' = b := by
  have hsame : ∀ m, m ≠ n → (g.setρ n b).ρ m = g.ρ m ∧ (g.setρ n b).τ m = g.τ m := fun m hm => by simp [G.setρ, hm]
  have hoN : ∀ b' o, ownO (g.setρ n b) n (.cells vs) b' o → b' = b := fun b' o ho => by
    have : b' = _ := ho
    simpa [G.setρ] using this
  refine ⟨⟨fun m pb hm => ?_, ?_, ?_, h.ex⟩, ?_⟩
  · rw [lk_lset] at hm
    split at hm
    · rename_i e; subst e; simp at hm; subst hm
      exact ⟨c, _, (0, 0), by simpa [G.setρ] using hb, Nat.le_of_eq hl, by simp, fun j x hj => hv _ _ j x hj⟩
    · rename_i e
      exact ObRel.mono (g := g) (w := w) (h := h.ob m pb hm) (fun _ _ hs => hs) (fun b o hs => rfl) (hsame m (Ne.symm e)) (fun k hk => hsame k fun e => hr (e ▸ hpRefs_mem hm hk)) fun b _ => rfl
  · rintro b' o hs ⟨m, pb, hm, ho⟩
    rw [lk_lset] at hm
    split at hm
    · rename_i e; subst e; simp at hm; subst hm
      have := hoN b' o ho
      subst this
      exact hns o hs
    · rename_i e
      exact h.sep b' o hs ⟨m, pb, hm, (own_same (hsame m (Ne.symm e)) b' o).1 ho⟩
  · intro m m' ob1 ob2 h1 h2 hne b' o ho1 ho2
    rw [lk_lset] at h1 h2
    split at h1
    · rename_i e; subst e; simp at h1; subst h1
      split at h2
      · rename_i e; exact hne e
      · rename_i e
        have := hoN b' o ho1
        subst this
        exact hno o ⟨m', ob2, h2, (own_same (hsame m' (Ne.symm e)) b' o).1 ho2⟩
    · rename_i e1
      split at h2
      · rename_i e; subst e; simp at h2; subst h2
        have := hoN b' o ho2
        subst this
        exact hno o ⟨m, ob1, h1, (own_same (hsame m (Ne.symm e1)) b' o).1 ho1⟩
      · rename_i e2
        exact h.dis m m' ob1 ob2 h1 h2 hne b' o ((own_same (hsame m (Ne.symm e1)) b' o).1 ho1) ((own_same (hsame m' (Ne.symm e2)) b' o).1 ho2)
  · rintro b' o ⟨m, pb, hm, ho⟩
    rw [lk_lset] at hm
    split at hm
    · rename_i e; subst e; simp at hm; subst hm
      exact .inr (hoN b' o ho)
    · rename_i e
      exact .inl ⟨m, pb, hm, (own_same (hsame m (Ne.symm e)) b' o).1 ho⟩
/-- How one comes from here to there, with room made ahead. -/
structure ToF (K : List Nat) (g : G) (hp : Hp) (F : Nat → Prop) (w : World) (g' : G) (hp' : Hp) (F' : Nat → Prop) (w' : World) : Prop where
  ev : Ev (fun b o => Own g hp b o ∨ F b) (fun b o => Own g' hp' b o ∨ F' b) g g' w w'
  ks : KSame K g g'
  ki : KIn K hp'
theorem ToF.refl {K : List Nat} {g : G} {hp : Hp} {F : Nat → Prop} {w : World} (h : KIn K hp) : ToF K g hp F w g hp F w := ⟨Ev.refl _ _ _, fun _ _ => ⟨rfl, rfl⟩, h⟩
theorem ToF.trans {K : List Nat} {g g' g'' : G} {hp hp' hp'' : Hp} {F F' F'' : Nat → Prop} {w w' w'' : World} (h : ToF K g hp F w g' hp' F' w') (k : ToF K g' hp' F' w' g'' hp'' F'' w'') : ToF K g hp F w g'' hp'' F'' w'' :=
  ⟨h.ev.trans k.ev, fun n hn => ⟨(k.ks n hn).1.trans (h.ks n hn).1, (k.ks n hn).2.trans (h.ks n hn).2⟩, k.ki⟩
theorem To.withF {K : List Nat} {g g' : G} {hp hp' : Hp} {w w' : World} (F : Nat → Prop) (h : To K g hp w g' hp' w') : ToF K g hp F w g' hp' F w' :=
  ⟨⟨h.ev.os, h.ev.tape, h.ev.output, h.ev.size, fun b hb hf => h.ev.blk b hb fun f ho => hf f (.inl ho), fun b f hb hf => h.ev.cell b f hb fun ho => hf (.inl ho), h.ev.shp, h.ev.S1, fun b f hs => by
    rcases h.ev.S2 b f hs with q | q | q
    · exact .inl q
    · exact .inr (.inl (.inl q))
    · exact .inr (.inr q), fun b f ho => by
    rcases ho with ho | ho
    · rcases h.ev.o2 b f ho with q | q
      · exact .inl (.inl q)
      · exact .inr q
    · exact .inl (.inr ho)⟩, h.ks, h.ki⟩
theorem ToF.toTo {K : List Nat} {g g' : G} {hp hp' : Hp} {w w' : World} (h : ToF K g hp (fun _ => False) w g' hp' (fun _ => False) w') : To K g hp w g' hp' w' :=
  ⟨⟨h.ev.os, h.ev.tape, h.ev.output, h.ev.size, fun b hb hf => h.ev.blk b hb fun f ho => ho.elim (hf f) id, fun b f hb hf => h.ev.cell b f hb fun ho => ho.elim hf id, h.ev.shp, h.ev.S1, fun b f hs => by
    rcases h.ev.S2 b f hs with q | q | q
    · exact .inl q
    · exact .inr (.inl (q.elim id False.elim))
    · exact .inr (.inr q), fun b f ho => by
    rcases h.ev.o2 b f (.inl ho) with q | q
    · exact .inl (q.elim id False.elim)
    · exact .inr q⟩, h.ks, h.ki⟩
/-- A float's turn has come, and it is there. -/
theorem FlOk.adopt {K : List Nat} {ops : Array Oper} {g : G} {s : St} {ps : List Rec} {a : Act} {w : World} {f : Flt} (hf : FlOk P ops g s a w f) (h : J P ops g s ps a w) (hk : KIn K s.hp) {o : Oper} (ho : ops[f.i]? = some o) {m : Bool} {D : List Nat} {k : St → Prop}
    (hW : WR P K ops [o] s fun s' => (∀ t ∈ D, s'.get t = s.get t) ∧ (m = true → s'.hp = s.hp) ∧ k s') (hdd : ∀ r ∈ ps, r.o.dst ≠ some f.d)
    (hlate : ∀ r ∈ ps, (r.s.hp = [] ∨ m = true) ∧ ∀ t ∈ r.o.looksAt ops, ∀ n ∈ (r.s.get t).refs, n ∈ K) (hlo : ∀ r ∈ ps, f.d ∉ r.o.looksAt ops) (F F' : Nat → Prop) (hF : F f.b) (hFF : ∀ b, F' b → F b) :
    ∃ s' g', J P ops g' s' ps a w ∧ ToF K g s.hp F w g' s'.hp F' w ∧ (∀ t ∈ D, s'.get t = s.get t) ∧ k s' ∧ (∀ b o, Own g' s'.hp b o → Own g s.hp b o ∨ b = f.b) ∧ g'.S = g.S ∧ (∀ t, t ≠ f.d → s'.get t = s.get t) := by
  obtain ⟨o', t, q1, q2, q3, q4, cs, c, e, q5, q6, q7, q8⟩ := hf.op
  rw [ho] at q1; cases q1
  simp only [WR, q3] at hW
  have hstep : stepK P K o s (fun s' => (∀ t ∈ D, s'.get t = s.get t) ∧ (m = true → s'.hp = s.hp) ∧ k s') := hW
  unfold stepK at hstep
  have ha0 : aop P o s = anew s f.d cs := by
    unfold aop
    rw [q2]
    simp only [q4, aalloc, q5]
  rw [q2] at hstep
  simp only [ha0] at hstep
  cases ha : anew s f.d cs with
  | none =>
    rw [ha] at hstep
    simp only [nilK] at hstep
  | some s1 =>
    rw [ha] at hstep
    obtain ⟨h1, h2, h3⟩ := hstep
    unfold anew at ha
    generalize s.nmOf f.d = n at ha
    unfold anewN at ha
    cases hc : (freshC s f.d n && ltb f.d s.n && !(AV.has.hasL n cs))
    · rw [hc] at ha; cases ha
    · rw [hc] at ha
      simp only [cond_true, Option.some.injEq] at ha; subst ha
      simp only [Bool.and_eq_true, Bool.not_eq_true'] at hc
      obtain ⟨⟨p1, hd⟩, p3⟩ := hc
      have hd : f.d < s.n := Nat.le_of_ble_eq_true hd
      obtain ⟨hnt, hrf, hno⟩ := freshC_spec p1
      obtain ⟨hA, hB⟩ := h.hp.adopt hno hrf cs q6 q7 q8 hf.no hf.ns
      have hsame : ∀ m, m ≠ n → (g.setρ n f.b).ρ m = g.ρ m ∧ (g.setρ n f.b).τ m = g.τ m := fun m hm => by simp [G.setρ, hm]
      have hnK : n ∉ K := fun hm => by
        obtain ⟨ob, h1, _⟩ := hk n hm
        rw [hno] at h1; cases h1
      have hget : ∀ t, t ≠ f.d → (({ s with tm := lset s.tm f.d (.ptr n 0), hp := lset s.hp n (.cells cs) } : St)).get t = s.get t := fun t ht => by
        unfold St.get
        simp only [lk_lset]
        rw [if_neg (Ne.symm ht)]
      refine ⟨{ s with tm := lset s.tm f.d (.ptr n 0), hp := lset s.hp n (.cells cs) }, g.setρ n f.b, ⟨h.n, h.df, hA, fun t ht => ?_, h.op, h.sn, fun r hr d hdst => ?_, h.re, fun r hr => (hlate r hr).1.elim .inl fun e => (h.sh r hr).imp id fun q => q.trans (h2 e).symm, h.no, fun r hr t ht => ?_, h.ds⟩, ⟨?_, fun n' hn' => hsame n' fun e => hnK (e ▸ hn'), fun n' hn' => ?_⟩, h1, h3, hB, rfl, hget⟩
      · by_cases e : t = f.d
        · subst e
          have : (({ s with tm := lset s.tm f.d (.ptr n 0), hp := lset s.hp n (.cells cs) } : St)).get f.d = .ptr n 0 := by
            unfold St.get
            simp [lk_lset]
          rw [this, hf.sl]
          have := Rel.ptr (g := g.setρ n f.b) (w := w) (n := n) (off := 0)
          simpa [G.setρ] using this
        · rw [hget t e]
          exact Rel.mono (g := g) (w := w) (g' := g.setρ n f.b) (fun _ _ h => h) (fun _ _ _ => rfl) (h.tm t ht) fun m hm => hsame m fun e' => hnt t e (e' ▸ hm)
      · obtain ⟨z1, z2⟩ := h.dv r hr d hdst
        exact ⟨z1, by rw [hget d fun e => hdd r hr (e ▸ hdst)]; exact z2⟩
      · rcases h.lo r hr t ht with q | ⟨y1, y2⟩
        · exact .inl q
        · refine .inr ⟨y1, ?_⟩
          exact Rel.mono (g := g) (w := w) (g' := g.setρ n f.b) (fun _ _ h => h) (fun _ _ _ => rfl) y2 fun m hm => hsame m fun e' => hnK (e' ▸ (hlate r hr).2 t ht m hm)
      · refine ⟨rfl, rfl, rfl, Nat.le_refl _, fun _ _ _ => rfl, fun _ _ _ _ => rfl, fun b c e fr h => ⟨c, h, rfl⟩, fun _ _ h => h, fun _ _ h => .inl h, fun b f' ho => .inl ?_⟩
        rcases ho with ho | ho
        · rcases hB b f' ho with q | q
          · exact .inl q
          · subst q; exact .inr hF
        · exact .inr (hFF b ho)
      · obtain ⟨ob, z1, z2⟩ := hk n' hn'
        exact ⟨ob, by rw [lk_lset, if_neg fun e => hnK (by rw [e]; exact hn')]; exact z1, z2⟩
theorem SimH.more {g : G} {hp : Hp} {w : World} (h : SimH g hp w) (obj : Obj) : SimH g hp (w.alloc obj) := by
  have hold : ∀ k, k < w.heap.size → (w.alloc obj).heap[k]? = w.heap[k]? := fun k hk => by
    show (w.heap.push obj)[k]? = _
    rw [Array.getElem?_push, if_neg (by omega)]
  refine ⟨fun m pb hm => ?_, h.sep, h.dis, fun b o hs => ?_⟩
  · exact ObRel.mono (g := g) (w := w) (h := h.ob m pb hm) (fun _ _ hs => hs) (fun b o hs => cell_other (hold b (h.lt hs))) ⟨rfl, rfl⟩ (fun k hk => ⟨rfl, rfl⟩) fun b ⟨o, ho⟩ => hold b (own_lt h hm ho)
  · obtain ⟨v, hv⟩ := h.ex b o hs
    exact ⟨v, (cell_other (hold b (h.lt hs))).trans hv⟩
/-- It is made. -/
theorem fl_run {ops : Array Oper} {o : Oper} {i d : Nat} {t : TypeId} (ho : ops[i]? = some o) (h1 : o.op = .alloc t) (h2 : o.guard = none) (h3 : o.dst = some d) {cs : List AV} (hz : zv P t = some cs) (a : Act) (w : World) (Q : Exit → Act → World → Prop) :
    ∃ (c : Array Value) (e : TypeId), cs.length = c.size ∧ (∀ (g : G) (w : World) (j : Nat) (x : AV), cs[j]? = some x → Rel g w (c.getD j undef) x) ∧
      ∀ K : Act → World → Prop, K (a.put (some d) (.pointer (some ⟨w.heap.size, 0, none⟩))) (w.alloc (.cells c e)) → wpOp P ops Q i K a w := by
  obtain ⟨z, h0, l1, l2⟩ := zv_spec hz ⟨fun _ _ => False, fun _ => 0, fun _ => default⟩ w
  refine ⟨z.cells, t, l1, fun g' w' j x hj => ?_, fun K hK => ?_⟩
  · obtain ⟨z', h0', _, l2'⟩ := zv_spec hz g' w'
    have : z' = z := by
      unfold zv at hz
      split at hz
      · rename_i i hi
        split at hz
        · rename_i z0 hz0
          have a1 : (zeroValue t).run P w' = .ok z0 w' := by simp [zeroValue, typeInfo, hi, hz0]
          have a2 : (zeroValue t).run P w = .ok z0 w := by simp [zeroValue, typeInfo, hi, hz0]
          rw [h0'] at a1
          rw [h0] at a2
          simp only [Result.ok.injEq, and_true] at a1 a2
          rw [a1, a2]
        · cases hz
      · cases hz
    subst this
    exact l2' j x hj
  · unfold wpOp
    have hw : Region.wanted o (yielded ops a.tmps) = true := by unfold Region.wanted; rw [h2]
    have hr : (execOp a.eval o).run P w = .ok (.value (.pointer (some ⟨w.heap.size, 0, none⟩))) (w.alloc (.cells z.cells t)) := by
      have hx : execOp a.eval o = (do pure (.value (← (Instr.alloc t true (.tuple #[]))))) := by
        obtain ⟨dst, op, ty, pos, after, guard⟩ := o
        simp only at h1
        subst h1
        simp [execOp]
      rw [hx]
      simp [Instr.alloc, h0, newVar, newRow]
      try rfl
    simp only [ho, hw, if_true, Oper.wp, hr, Oper.upon, h3]
    exact .inl hK
end Go.Wl

/- Values and memory told without addresses: a region in any order. -/
set_option linter.unusedVariables false
set_option linter.unusedSimpArgs false
namespace Go.Wl
variable {P : Program}

inductive Anc (ops : Array Oper) : Nat → Nat → Prop
  | base {i j o} (ho : ops[i]? = some o) (h : j ∈ pre o) : Anc ops j i
  | step {i j k o} (ho : ops[i]? = some o) (h : k ∈ pre o) (r : Anc ops j k) : Anc ops j i
theorem Anc.listed {ops : Array Oper} {L : Nat → Prop} (hd : ∀ i o, L i → ops[i]? = some o → ∀ p ∈ pre o, L p) {j i : Nat} (h : Anc ops j i) : (∀ o, ops[i]? = some o → ∀ p ∈ pre o, L p) → L j := by
  induction h with
  | base ho h => exact fun hi => hi _ ho _ h
  | step ho h r ih => exact fun hi => ih fun o' ho' => hd _ o' (hi _ ho _ h) ho'

/-- The operations, one behind the other; in between things may be done that wait for nothing. -/
def WDo (P : Program) (K : List Nat) (ops : Array Oper) : Bool → List (Nat × Kd) → St → (St → Prop) → Prop
  | _, [], s, k => k s
  | m, (i, kd) :: r, s, k => ∃ o, ops[i]? = some o ∧ match kd with
    | .ch D p => WR P K ops [o] s fun s' => (∀ t ∈ D, s'.get t = s.get t) ∧ ((m && p) = true → s'.hp = s.hp) ∧ WDo P K ops (m && p) r s' k
    | .pu => ∃ v s', Redo P ops o s v ∧ s.setv o.dst v = some s' ∧ WDo P K ops m r s' k
    | .la ls => (∀ t ∈ o.looksAt ops, ∀ n ∈ (s.get t).refs, n ∈ K) ∧ ∃ (e : Bool) (v : AV) (s' : St), Redo P ops o { s with hp := bif e then s.hp else [] } v ∧ s.setv o.dst v = some s' ∧ WDo P K ops (m || e) r s' k
def inV (V : List (Nat × Kd)) (i : Nat) : Prop := ∃ kd, (i, kd) ∈ V
def isCh : Kd → Prop
  | .ch _ _ => True
  | _ => False
/-- What must be so of the text. -/
structure Gd (ops : Array Oper) : Prop where
  lt : ∀ (i : Nat) (o : Oper), ops[i]? = some o → ∀ p ∈ pre o, p < i
  dd : ∀ (i : Nat) (o : Oper) (j : Nat) (o' : Oper), ops[i]? = some o → ops[j]? = some o' → i ≠ j → o.dst ≠ none → o.dst ≠ o'.dst
  ll : ∀ (i : Nat) (o : Oper) (j : Nat) (o' : Oper) (t : Tmp), ops[i]? = some o → ops[j]? = some o' → t ∈ o.looksAt ops → o'.dst = some t → i ≠ j ∧ (j ∈ pre o ∨ i ∈ pre o')
  sel : ∀ (i : Nat) (o : Oper), ops[i]? = some o → ∀ cs b, o.op ≠ .select cs b
def Chk (ops : Array Oper) : List (Nat × Kd) → List (Nat × Kd) → Prop
  | V, [] => ∀ i, i < ops.size → inV V i
  | V, (i, kd) :: r => ¬ inV V i ∧ (∀ o, ops[i]? = some o → ∀ p ∈ pre o, inV V p) ∧ Chk ops ((i, kd) :: V) r ∧ match kd with
    | .ch D p => (∀ j, j < ops.size → ¬ inV V j → j ≠ i → (∃ o, ops[j]? = some o ∧ ∃ p ∈ pre o, ¬ inV V p ∧ ∀ o', ops[p]? = some o' → ¬ isFl o') ∨ Anc ops i j ∨ ∃ o, ops[j]? = some o ∧ isFl o) ∧
      (∀ j kd, (j, kd) ∈ V → ¬ isCh kd → Anc ops j i ∨ (∃ c kc, (c, kc) ∈ V ∧ isCh kc ∧ Anc ops j c) ∨ (p = true ∧ (∃ ls, kd = .la ls) ∧ ∀ o d, ops[j]? = some o → o.dst = some d → d ∈ D)) ∧
      ∀ j o d, ops[j]? = some o → isFl o → o.dst = some d → ¬ inV V j → j ≠ i → d ∈ D
    | _ => True
/-- Slots of floats hold nothing yet. -/
def AnyF (ops : Array Oper) (V : List (Nat × Kd)) (s : St) : Prop := ∀ (j : Nat) (o : Oper) (d : Nat), ops[j]? = some o → isFl o → o.dst = some d → ¬ inV V j → s.get d = .any ∧ d < s.n
def FlZ (P : Program) (ops : Array Oper) : Prop := ∀ (j : Nat) (o : Oper) (t : TypeId), ops[j]? = some o → isFl o → o.op = .alloc t → ∃ cs, zv P t = some cs
def fb (fs : List Flt) : Nat → Prop := fun b => ∃ f ∈ fs, f.b = b

def unl (n : Nat) (L : Array Bool) : Nat := (List.range n).countP fun i => !(L.getD i true)
theorem countP_lt {p q : Nat → Bool} (h : ∀ x, q x = true → p x = true) {i : Nat} (hp : p i = true) (hq : q i = false) : ∀ {l : List Nat}, i ∈ l → l.countP q < l.countP p := by
  intro l
  induction l with
  | nil => intro h; cases h
  | cons x r ih =>
    intro hi
    have hle : r.countP q ≤ r.countP p := List.countP_mono_left fun y _ => h y
    simp only [List.countP_cons]
    by_cases e : x = i
    · subst e
      rw [if_neg (by rw [hq]; simp), if_pos hp]
      omega
    · have := ih (by rcases List.mem_cons.1 hi with e' | e'; exact absurd e'.symm e; exact e')
      split
      · rename_i hqx
        rw [if_pos (h x hqx)]
        omega
      · split <;> omega
theorem set_unl {n i : Nat} {L : Array Bool} (hi : i < n) (hL : L.getD i true = false) : unl n (L.setIfInBounds i true) < unl n L := by
  have hsz : i < L.size := by
    rcases Nat.lt_or_ge i L.size with h | h
    · exact h
    · rw [Array.getD_eq_getD_getElem?, Array.getElem?_eq_none h] at hL; cases hL
  refine countP_lt (i := i) (fun x hx => ?_) (by simp [hL]) (by simp [hsz]) (List.mem_range.2 hi)
  by_cases e : i = x
  · subst e; simp [hsz] at hx
  · rw [getD_set_ne true e] at hx; exact hx

structure Sta (ops : Array Oper) (K : List Nat) (m : Bool) (V : List (Nat × Kd)) (ps : List Rec) (fs : List Flt) (L : Array Bool) : Prop where
  sz : L.size = ops.size
  un : ∀ i, i < ops.size → (L.getD i true = false ↔ (¬ inV V i ∧ ¬ ∃ f ∈ fs, f.i = i) ∨ ∃ r ∈ ps, r.i = i)
  fv : ∀ f ∈ fs, ¬ inV V f.i
  fq : ∀ f ∈ fs, ∀ f' ∈ fs, f'.i = f.i → f' = f
  fd : ∀ f ∈ fs, ∀ f' ∈ fs, f'.i ≠ f.i → f'.b ≠ f.b
  vu : ∀ i kd kd', (i, kd) ∈ V → (i, kd') ∈ V → kd = kd'
  vd : ∀ (i : Nat) (o : Oper), inV V i → ops[i]? = some o → ∀ p ∈ pre o, inV V p
  ld : ∀ (i : Nat) (o : Oper), L.getD i true = true → ops[i]? = some o → ∀ p ∈ pre o, L.getD p true = true
  uq : ∀ r ∈ ps, ∀ r' ∈ ps, r'.i = r.i → r' = r
  pv : ∀ r ∈ ps, ∃ kd, (r.i, kd) ∈ V ∧ ¬ isCh kd ∧ ∀ ls, kd = .la ls → (r.s.hp = [] ∨ m = true) ∧ ∀ t ∈ r.o.looksAt ops, ∀ n ∈ (r.s.get t).refs, n ∈ K
theorem inV_cons {V : List (Nat × Kd)} {i j : Nat} {kd : Kd} : inV ((i, kd) :: V) j ↔ j = i ∨ inV V j := by
  unfold inV
  constructor
  · rintro ⟨k, h⟩
    rcases List.mem_cons.1 h with h | h
    · cases h; exact .inl rfl
    · exact .inr ⟨k, h⟩
  · rintro (rfl | ⟨k, h⟩)
    · exact ⟨kd, List.mem_cons_self⟩
    · exact ⟨k, List.mem_cons_of_mem _ h⟩
theorem lt_of_some {ops : Array Oper} {i : Nat} {o : Oper} (h : ops[i]? = some o) : i < ops.size := (Array.getElem?_eq_some_iff.1 h).1

def Inv (P : Program) (K : List Nat) (ops : Array Oper) (Q : Exit → Act → World → Prop) (fuel : Nat) : Prop := ∀ (m : Bool) (rest V : List (Nat × Kd)) (s : St) (ps : List Rec) (fs : List Flt) (g : G) (L : Array Bool) (a : Act) (w : World) (k : St → Prop),
    J P ops g s ps a w → KIn K s.hp → WDo P K ops m rest s k → Chk ops V rest → Sta ops K m V ps fs L → (∀ f ∈ fs, FlOk P ops g s a w f) → AnyF ops V s → unl ops.size L ≤ fuel →
    (∀ s' g' a' w', Sim g' s' a' w' → ToF K g s.hp (fb fs) w g' s'.hp (fun _ => False) w' → k s' → Q .normal a' w') → wpAny P .any ops Q fuel L a w

section
variable {K : List Nat} {m : Bool} {ops : Array Oper} {rest V : List (Nat × Kd)} {s : St} {ps : List Rec} {fs : List Flt} {g : G} {L : Array Bool} {a : Act} {w : World} {k : St → Prop} {Q : Exit → Act → World → Prop}
theorem any_fin (hhf : ∀ i kd r, rest = (i, kd) :: r → ¬ ∃ f ∈ fs, f.i = i) (hJ : J P ops g s ps a w) (hk : KIn K s.hp) (hW : WDo P K ops m rest s k) (hC : Chk ops V rest) (hS : Sta ops K m V ps fs L) (hF : ∀ f ∈ fs, FlOk P ops g s a w f)
    (hQ : ∀ s' g' a' w', Sim g' s' a' w' → ToF K g s.hp (fb fs) w g' s'.hp (fun _ => False) w' → k s' → Q .normal a' w') (hall : ∀ i, i < ops.size → L.getD i true = true) : Q .normal a w := by
  have hps : ps = [] := by
    cases ps with
    | nil => rfl
    | cons r _ =>
      have h1 := lt_of_some (hJ.op r List.mem_cons_self)
      have h2 := (hS.un r.i h1).2 (.inr ⟨r, List.mem_cons_self, rfl⟩)
      rw [hall _ h1] at h2
      cases h2
  subst hps
  cases rest with
  | nil =>
    have hfs : fs = [] := by
      cases fs with
      | nil => rfl
      | cons f _ =>
        obtain ⟨o, t, q1, _⟩ := (hF f List.mem_cons_self).op
        exact absurd (hC f.i (lt_of_some q1)) (hS.fv f List.mem_cons_self)
    subst hfs
    have hfb : fb [] = fun _ => False := by funext b; simp [fb]
    exact hQ s g a w ⟨hJ.n, hJ.df, fun t => hJ.tm t (by simp), hJ.hp⟩ (by rw [hfb]; exact ToF.refl hk) hW
  | cons it r =>
    obtain ⟨i, kd⟩ := it
    obtain ⟨o, ho, _⟩ := hW
    have h1 := lt_of_some ho
    have h2 := (hS.un i h1).2 (.inl ⟨hC.1, hhf i kd r rfl⟩)
    rw [hall _ h1] at h2
    cases h2
theorem Sta.inV_ps (hS : Sta ops K m V ps fs L) {r : Rec} (hr : r ∈ ps) : inV V r.i := by
  obtain ⟨kd, h, _⟩ := hS.pv r hr
  exact ⟨kd, h⟩
theorem Sta.doneCh (hS : Sta ops K m V ps fs L) {c : Nat} {kc : Kd} (hc : (c, kc) ∈ V) (hkc : isCh kc) (hlt : c < ops.size) : L.getD c true = true := by
  cases hl : L.getD c true
  · rcases (hS.un c hlt).1 hl with h | ⟨r, hr, e⟩
    · exact absurd ⟨kc, hc⟩ h.1
    · obtain ⟨kd, h1, h2, _⟩ := hS.pv r hr
      rw [e] at h1
      exact absurd (hS.vu c kc kd hc h1 ▸ hkc) h2
  · rfl
theorem any_pure (G0 : Gd ops) {i : Nat} {kd : Kd} (hkd : ¬ isCh kd) (hhf : ¬ ∃ f ∈ fs, f.i = i) (hJ : J P ops g s ps a w) (hW : WDo P K ops m ((i, kd) :: rest) s k) (hC : Chk ops V ((i, kd) :: rest)) (hS : Sta ops K m V ps fs L) (hF : ∀ f ∈ fs, FlOk P ops g s a w f) (hA : AnyF ops V s) :
    ∃ m' s' r, J P ops g s' (r :: ps) a w ∧ s'.hp = s.hp ∧ WDo P K ops m' rest s' k ∧ Chk ops ((i, kd) :: V) rest ∧ Sta ops K m' ((i, kd) :: V) (r :: ps) fs L ∧ (∀ f ∈ fs, FlOk P ops g s' a w f) ∧ AnyF ops ((i, kd) :: V) s' := by
  obtain ⟨o, ho, hW⟩ := hW
  obtain ⟨c1, c2, c3, _⟩ := hC
  have key : ∀ m' hp, (m = true → m' = true) → (hp = [] ∨ hp = s.hp) → (∀ ls, kd = .la ls → (hp = [] ∨ m' = true) ∧ ∀ t ∈ o.looksAt ops, ∀ n ∈ (s.get t).refs, n ∈ K) → (∃ v s', Redo P ops o { s with hp := hp } v ∧ s.setv o.dst v = some s' ∧ WDo P K ops m' rest s' k) →
      ∃ m' s' r, J P ops g s' (r :: ps) a w ∧ s'.hp = s.hp ∧ WDo P K ops m' rest s' k ∧ Chk ops ((i, kd) :: V) rest ∧ Sta ops K m' ((i, kd) :: V) (r :: ps) fs L ∧ (∀ f ∈ fs, FlOk P ops g s' a w f) ∧ AnyF ops ((i, kd) :: V) s' := by
    rintro m' hp hmm hhp hla ⟨v, s', h1, h2, h3⟩
    have hne : ∀ r ∈ ps, r.i ≠ i := fun r hr e => c1 (e ▸ hS.inV_ps hr)
    have hnp : ∀ r ∈ ps, i ∉ pre r.o := fun r hr hm => c1 (hS.vd r.i r.o (hS.inV_ps hr) (hJ.op r hr) i hm)
    refine ⟨m', s', _, hJ.pure ho hhp h1 h2 hne (fun r hr hd => G0.dd i o r.i r.o ho (hJ.op r hr) (hne r hr).symm hd) (fun r hr hd => G0.dd r.i r.o i o (hJ.op r hr) ho (hne r hr) hd) (fun r hr t ht hd => ?_) (fun r hr t ht hd => ?_) (fun t ht hd => ?_), (setv_get h2).1, h3, c3, ⟨hS.sz, fun j hj => ?_, fun f hf hv => ?_, hS.fq, hS.fd, fun j k1 k2 q1 q2 => ?_, fun j o' hj ho' p hp => ?_, hS.ld, ?_, ?_⟩, fun f hf => ?_, fun j o' d hj hfl hd hv => ?_⟩
    · rcases (G0.ll r.i r.o i o t (hJ.op r hr) ho ht hd).2 with h | h
      · exact absurd h (hnp r hr)
      · exact h
    · rcases (G0.ll i o r.i r.o t ho (hJ.op r hr) ht hd).2 with h | h
      · exact h
      · exact absurd h (hnp r hr)
    · exact (G0.ll i o i o t ho ho ht hd).1 rfl
    · rw [hS.un j hj, inV_cons]
      by_cases e : j = i
      · subst e
        simp only [true_or, not_true_eq_false, false_or, false_and]
        exact ⟨fun _ => ⟨_, List.mem_cons_self, rfl⟩, fun _ => .inl ⟨c1, hhf⟩⟩
      · constructor
        · rintro (h | ⟨r, hr, e'⟩)
          · exact .inl ⟨fun h' => by rcases h' with h' | h'; exact e h'; exact h.1 h', h.2⟩
          · exact .inr ⟨r, List.mem_cons_of_mem _ hr, e'⟩
        · rintro (h | ⟨r, hr, e'⟩)
          · exact .inl ⟨fun h' => h.1 (.inr h'), h.2⟩
          · rcases List.mem_cons.1 hr with rfl | hr
            · exact absurd e'.symm e
            · exact .inr ⟨r, hr, e'⟩
    · rcases inV_cons.1 hv with e | hv
      · exact hhf ⟨f, hf, e⟩
      · exact hS.fv f hf hv
    · rcases List.mem_cons.1 q1 with q1 | q1 <;> rcases List.mem_cons.1 q2 with q2 | q2
      · cases q1; cases q2; rfl
      · cases q1; exact absurd ⟨k2, q2⟩ c1
      · cases q2; exact absurd ⟨k1, q1⟩ c1
      · exact hS.vu j k1 k2 q1 q2
    · rw [inV_cons] at hj ⊢
      rcases hj with rfl | hj
      · exact .inr (c2 o' ho' p hp)
      · exact .inr (hS.vd j o' hj ho' p hp)
    · intro r hr r' hr' e
      rcases List.mem_cons.1 hr with rfl | hr
      · rcases List.mem_cons.1 hr' with rfl | hr'
        · rfl
        · exact absurd e (hne r' hr')
      · rcases List.mem_cons.1 hr' with rfl | hr'
        · exact absurd e.symm (hne r hr)
        · exact hS.uq r hr r' hr' e
    · intro r hr
      rcases List.mem_cons.1 hr with rfl | hr
      · refine ⟨kd, List.mem_cons_self, hkd, fun ls e => ⟨(hla ls e).1, fun t ht n hn => (hla ls e).2 t ht n ?_⟩⟩
        have : (snap s hp (o.looksAt ops)).get t = s.get t := by rw [snap, St.get_keep, if_pos ((memb_iff _ _).2 ht)]
        rw [← this]; exact hn
      · obtain ⟨kd', q1, q2, q3⟩ := hS.pv r hr
        exact ⟨kd', List.mem_cons_of_mem _ q1, q2, fun ls e => ⟨(q3 ls e).1.imp id hmm, (q3 ls e).2⟩⟩
    · obtain ⟨e1, e2, e3, e4⟩ := setv_get h2
      have hq := hF f hf
      obtain ⟨of, tf, z1, z2, z3, z4, _⟩ := hq.op
      exact ⟨hq.op, (e3 f.d fun e => G0.dd i o f.i of ho z1 (fun e => hhf ⟨f, hf, e.symm⟩) (by rw [e]; simp) (by rw [e, z4])).trans hq.an, hq.sl, by rw [e1]; exact hq.no, hq.ns⟩
    · obtain ⟨e1, e2, e3, e4⟩ := setv_get h2
      have hv' : ¬ inV V j := fun h => hv (inV_cons.2 (.inr h))
      have hne : i ≠ j := fun e => hv (inV_cons.2 (.inl e.symm))
      obtain ⟨y1, y2⟩ := hA j o' d hj hfl hd hv'
      exact ⟨(e3 d fun e => G0.dd i o j o' ho hj hne (by rw [e]; simp) (by rw [e, hd])).trans y1, by rw [e2]; exact y2⟩
  cases kd with
  | ch D p => exact absurd trivial hkd
  | pu => exact key m s.hp id (.inr rfl) (fun ls e => by cases e) hW
  | la ls =>
    obtain ⟨q0, e, v, s', q1, q2, q3⟩ := hW
    cases e with
    | false => exact key (m || false) [] (fun e => by rw [e]; rfl) (.inl rfl) (fun _ _ => ⟨.inl rfl, q0⟩) ⟨v, s', q1, q2, q3⟩
    | true => exact key (m || true) s.hp (fun e => by rw [e]; rfl) (.inr rfl) (fun _ _ => ⟨.inr (by simp), q0⟩) ⟨v, s', q1, q2, q3⟩

theorem getD_set {L : Array Bool} {i j : Nat} (hi : i < L.size) : (L.setIfInBounds i true).getD j true = if i = j then true else L.getD j true := by
  by_cases e : i = j
  · subst e; simp [hi]
  · rw [getD_set_ne true e, if_neg e]
theorem getD_tf {L : Array Bool} {i : Nat} (hi : i < L.size) : L.getD i true = L.getD i false := by simp [hi]
theorem hld_set (hS : Sta ops K m V ps fs L) {i : Nat} {o : Oper} (ho : ops[i]? = some o) (hpl : ∀ p ∈ pre o, L.getD p true = true) : ∀ (j : Nat) (o' : Oper), (L.setIfInBounds i true).getD j true = true → ops[j]? = some o' → ∀ p ∈ pre o', (L.setIfInBounds i true).getD p true = true := fun j o' hj ho' p hp => by
  have hin := lt_of_some ho
  rw [getD_set (by rw [hS.sz]; exact hin)] at hj ⊢
  split
  · rfl
  · by_cases e : i = j
    · subst e
      rw [ho] at ho'
      cases ho'
      exact hpl p hp
    · rw [if_neg e] at hj
      exact hS.ld j o' hj ho' p hp
theorem any_step (G0 : Gd ops) (Z : FlZ P ops) {fuel : Nat} (ih : Inv P K ops Q fuel) (hhd : ∀ i kd r, rest = (i, kd) :: r → isCh kd ∧ ¬ ∃ f ∈ fs, f.i = i) (hJ : J P ops g s ps a w) (hk : KIn K s.hp) (hW : WDo P K ops m rest s k) (hC : Chk ops V rest) (hS : Sta ops K m V ps fs L)
    (hF : ∀ f ∈ fs, FlOk P ops g s a w f) (hA : AnyF ops V s) (hu : unl ops.size L ≤ fuel + 1)
    (hQ : ∀ s' g' a' w', Sim g' s' a' w' → ToF K g s.hp (fb fs) w g' s'.hp (fun _ => False) w' → k s' → Q .normal a' w') : wpAny P .any ops Q (fuel + 1) L a w := by
  refine ⟨fun hr => any_fin (fun i kd r e => (hhd i kd r e).2) hJ hk hW hC hS hF hQ fun i hi => ?_, fun i hi => ?_⟩
  · refine Classical.byContradiction fun hn => ?_
    have hn : L.getD i true = false := by simpa using hn
    obtain ⟨m, ⟨hm1, hm2⟩, hmin⟩ := least (fun m => m < ops.size ∧ L.getD m true = false) ⟨i, hi, hn⟩
    have : m ∈ Region.ready .any ops L := by
      rw [mem_ready]
      refine ⟨hm2, ops[m], Array.getElem?_eq_getElem hm1, fun e he hb => ?_⟩
      have hp : e.on ∈ pre ops[m] := List.mem_map.2 ⟨e, List.mem_filter.2 ⟨by simpa using he, hb⟩, rfl⟩
      have hlt := G0.lt m _ (Array.getElem?_eq_getElem hm1) e.on hp
      cases hq : L.getD e.on true
      · have := hmin e.on ⟨by omega, hq⟩; omega
      · rw [← getD_tf (by rw [hS.sz]; omega)]; exact hq
    rw [hr] at this
    cases this
  · obtain ⟨hun, o, ho, hpre⟩ := mem_ready.1 hi
    have hin := lt_of_some ho
    have hpl : ∀ p ∈ pre o, L.getD p true = true := fun p hp => by
      obtain ⟨e, he, rfl⟩ := List.mem_map.1 hp
      obtain ⟨he, hb⟩ := List.mem_filter.1 he
      have hlt := G0.lt i o ho e.on hp
      rw [getD_tf (by rw [hS.sz]; omega)]
      exact hpre e (by simpa using he) hb
    have hld := hld_set hS ho hpl
    have hfu : unl ops.size (L.setIfInBounds i true) ≤ fuel := by have := set_unl hin hun; omega
    have hnf : ¬ ∃ f ∈ fs, f.i = i := fun ⟨f, hf, e⟩ => by
      rcases (hS.un i hin).1 hun with h | ⟨r, hr, e'⟩
      · exact h.2 ⟨f, hf, e⟩
      · exact hS.fv f hf (by rw [e, ← e']; exact hS.inV_ps hr)
    have hlv : ∀ j, j < ops.size → L.getD j true = true → inV V j ∨ ∃ f ∈ fs, f.i = j := fun j hj hl => Classical.byContradiction fun hn => by
      have := (hS.un j hj).2 (.inl ⟨fun h => hn (.inl h), fun h => hn (.inr h)⟩)
      rw [hl] at this; cases this
    by_cases hps : ∃ r ∈ ps, r.i = i
    · obtain ⟨r, hr, rfl⟩ := hps
      rw [hJ.op r hr] at ho
      cases ho
      have hnp : ∀ r' ∈ ps, r'.i ∉ pre r.o := fun r' hr' hm => by
        have h1 := hpl r'.i hm
        have h2 := (hS.un r'.i (lt_of_some (hJ.op r' hr'))).2 (.inr ⟨r', hr', rfl⟩)
        rw [h1] at h2; cases h2
      obtain ⟨u, h1, h2⟩ := hJ.redo hr hnp (fun r' hr' e => hS.uq r hr r' hr' e) (fun hm => Nat.lt_irrefl _ (G0.lt r.i r.o (hJ.op r hr) r.i hm)) Q
      refine h1 _ (ih m rest V s (rmv ps r.i) fs g _ _ w k h2 hk hW hC ⟨by simp [hS.sz], fun j hj => ?_, hS.fv, hS.fq, hS.fd, hS.vu, hS.vd, hld, fun x hx y hy e => hS.uq x (mem_rmv.1 hx).1 y (mem_rmv.1 hy).1 e, fun x hx => hS.pv x (mem_rmv.1 hx).1⟩ (fun f hf => ?_) hA hfu hQ)
      · rw [getD_set (by rw [hS.sz]; exact hin)]
        by_cases e : r.i = j
        · subst e
          rw [if_pos rfl]
          refine ⟨fun h => (by cases h), fun h => ?_⟩
          rcases h with h | ⟨x, hx, e⟩
          · exact absurd (hS.inV_ps hr) h.1
          · exact absurd e (mem_rmv.1 hx).2
        · rw [if_neg e, hS.un j hj]
          refine or_congr Iff.rfl ⟨fun ⟨x, hx, e'⟩ => ⟨x, mem_rmv.2 ⟨hx, fun q => e (q.symm.trans e')⟩, e'⟩, fun ⟨x, hx, e'⟩ => ⟨x, (mem_rmv.1 hx).1, e'⟩⟩
      · have hq := hF f hf
        obtain ⟨of, tf, z1, z2, z3, z4, _⟩ := hq.op
        exact ⟨hq.op, hq.an, (getD_put fun e => G0.dd r.i r.o f.i of (hJ.op r hr) z1 (fun e => hnf ⟨f, hf, e.symm⟩) (by rw [e]; simp) (by rw [e, z4])).trans hq.sl, hq.no, hq.ns⟩
    · have hnv : ¬ inV V i := by
        rcases (hS.un i hin).1 hun with h | h
        · exact h.1
        · exact absurd h hps
      cases rest with
      | nil => exact absurd (hC i hin) hnv
      | cons it rest =>
        obtain ⟨c, kd⟩ := it
        have hhc := (hhd c kd rest rfl).2
        cases kd with
        | ch D pp =>
          obtain ⟨o', ho', hW⟩ := hW
          obtain ⟨c1, c2, c3, c4, c5, c6⟩ := hC
          by_cases hci : i = c
          · subst hci
            rw [ho] at ho'
            cases ho'
            have hnanc : ∀ r ∈ ps, ∀ c, L.getD c true = true → ¬ Anc ops r.i c := fun r hr c hc h => by
              have h1 : L.getD r.i true = true := h.listed (L := fun x => L.getD x true = true) (fun x ox hx hox => hS.ld x ox hx hox) (fun o'' ho'' p hp => hS.ld c o'' hc ho'' p hp)
              have h2 := (hS.un r.i (lt_of_some (hJ.op r hr))).2 (.inr ⟨r, hr, rfl⟩)
              rw [h1] at h2; cases h2
            have hnanc0 : ∀ r ∈ ps, ¬ Anc ops r.i i := fun r hr h => by
              have h1 : L.getD r.i true = true := h.listed (L := fun x => L.getD x true = true) (fun x ox hx hox => hS.ld x ox hx hox) (fun o'' ho'' p hp => by rw [ho] at ho''; cases ho''; exact hpl p hp)
              have h2 := (hS.un r.i (lt_of_some (hJ.op r hr))).2 (.inr ⟨r, hr, rfl⟩)
              rw [h1] at h2; cases h2
            have hc5 : ∀ r ∈ ps, ∀ kd, (r.i, kd) ∈ V → ¬ isCh kd → pp = true ∧ (∃ ls, kd = .la ls) ∧ ∀ o d, ops[r.i]? = some o → o.dst = some d → d ∈ D := fun r hr kd p1 p2 => by
              rcases c5 r.i kd p1 p2 with h | ⟨c, kc, h1, h2, h3⟩ | h
              · exact absurd h (hnanc0 r hr)
              · refine absurd h3 (hnanc r hr c ?_)
                have hcl : c < ops.size := by
                  cases h3 with
                  | base ho _ => exact lt_of_some ho
                  | step ho _ _ => exact lt_of_some ho
                exact hS.doneCh h1 h2 hcl
              · exact h
            have hnp : ∀ r ∈ ps, i ∉ pre r.o := fun r hr hm => c1 (hS.vd r.i r.o (hS.inV_ps hr) (hJ.op r hr) i hm)
            have hnp' : ∀ r ∈ ps, r.i ∉ pre o := fun r hr hm => hnanc0 r hr (.base ho hm)
            have hpp : ∀ r ∈ ps, pp = true := fun r hr => by
              obtain ⟨kd, p1, p2, p3⟩ := hS.pv r hr
              exact (hc5 r hr kd p1 p2).1
            have hlm : ∀ r ∈ ps, (r.s.hp = [] ∨ (m && pp) = true) ∧ ∀ t ∈ r.o.looksAt ops, ∀ n ∈ (r.s.get t).refs, n ∈ K := fun r hr => by
              obtain ⟨kd, p1, p2, p3⟩ := hS.pv r hr
              obtain ⟨_, ⟨ls, h⟩, _⟩ := hc5 r hr kd p1 p2
              exact ⟨(p3 ls h).1.imp id fun e => by rw [e, hpp r hr]; rfl, (p3 ls h).2⟩
            have hst := hJ.chain (m := m && pp) (Q := Q) hk ho (G0.sel i o ho) hW G0.lt hS.uq hlm (fun r hr d hd => ?_) (fun r hr d hd hm => ?_) (fun r hr t ht hd => ?_)
            · refine wpOp_mono (fun a' w' => ?_) hst
              rintro ⟨s', g', q1, q2, q3, q4, q5, q6⟩
              have hgF : ∀ f ∈ fs, f.d ∈ D ∧ ∃ (c : Array Value) (e : TypeId), w.heap[f.b]? = some (.cells c e (0, 0)) := fun f hf => by
                obtain ⟨of, tf, z1, z2, z3, z4, cs, c, e, _, z5, _⟩ := (hF f hf).op
                exact ⟨c6 f.i of f.d z1 ⟨⟨tf, z2⟩, z3, f.d, z4⟩ z4 (hS.fv f hf) fun e => hnf ⟨f, hf, e⟩, c, e, z5⟩
              refine ih (m && pp) rest ((i, .ch D pp) :: V) s' ps fs g' _ a' w' k q1 q2.ki q3 c3 ⟨by simp [hS.sz], fun j hj => ?_, fun f hf hv => ?_, hS.fq, hS.fd, fun j k1 k2 y1 y2 => ?_, fun j o' hj ho' p hp => ?_, hld, hS.uq, fun r hr => ?_⟩ (fun f hf => ?_) (fun j o' d hj hfl hd hv => ?_) hfu fun s'' g'' a'' w'' p1 p2 p3 => hQ s'' g'' a'' w'' p1 ((q2.withF (fb fs)).trans p2) p3
              · rw [getD_set (by rw [hS.sz]; exact hin), inV_cons]
                by_cases e : i = j
                · subst e
                  rw [if_pos rfl]
                  refine ⟨fun h => (by cases h), fun h => ?_⟩
                  rcases h with h | h
                  · exact absurd (.inl rfl) h.1
                  · exact absurd h hps
                · rw [if_neg e, hS.un j hj]
                  refine or_congr (and_congr_left fun _ => ⟨fun h h' => ?_, fun h h' => h (.inr h')⟩) Iff.rfl
                  rcases h' with h' | h'
                  · exact e h'.symm
                  · exact h h'
              · rcases inV_cons.1 hv with e | hv
                · exact hnf ⟨f, hf, e⟩
                · exact hS.fv f hf hv
              · rcases List.mem_cons.1 y1 with y1 | y1 <;> rcases List.mem_cons.1 y2 with y2 | y2
                · cases y1; cases y2; rfl
                · cases y1; exact absurd ⟨k2, y2⟩ c1
                · cases y2; exact absurd ⟨k1, y1⟩ c1
                · exact hS.vu j k1 k2 y1 y2
              · rw [inV_cons] at hj ⊢
                rcases hj with rfl | hj
                · exact .inr (c2 o' ho' p hp)
                · exact .inr (hS.vd j o' hj ho' p hp)
              · obtain ⟨kd', q1, q2, q3⟩ := hS.pv r hr
                exact ⟨kd', List.mem_cons_of_mem _ q1, q2, fun ls e => hlm r hr⟩
              · have hq := hF f hf
                obtain ⟨hD, c', e', hb⟩ := hgF f hf
                have hlt : f.b < w.heap.size := (Array.getElem?_eq_some_iff.1 hb).1
                have hkeep := q2.ev.blk f.b hlt hq.no
                obtain ⟨of, tf, z1, z2, z3, z4, cs, c, e, z5, z6, z7⟩ := hq.op
                refine ⟨⟨of, tf, z1, z2, z3, z4, cs, c, e, z5, hkeep.trans z6, z7⟩, (q4 f.d hD).trans hq.an, (q5 f.d fun e => G0.dd i o f.i of ho z1 (fun e => hnf ⟨f, hf, e.symm⟩) (by rw [e]; simp) (by rw [e, z4])).trans hq.sl, fun o1 h1 => ?_, fun o1 h1 => ?_⟩
                · rcases q2.ev.o2 f.b o1 h1 with h | h
                  · exact hq.no o1 h
                  · omega
                · rcases q2.ev.S2 f.b o1 h1 with h | h | h
                  · exact hq.ns o1 h
                  · exact hq.no o1 h
                  · omega
              · have hv' : ¬ inV V j := fun h => hv (inV_cons.2 (.inr h))
                obtain ⟨y1, y2⟩ := hA j o' d hj hfl hd hv'
                exact ⟨(q4 d (c6 j o' d hj hfl hd hv' fun e => hv (inV_cons.2 (.inl e)))).trans y1, by rw [q6]; exact y2⟩
            · obtain ⟨kd, p1, p2, p3⟩ := hS.pv r hr
              exact (hc5 r hr kd p1 p2).2.2 r.o d (hJ.op r hr) hd
            · rcases (G0.ll i o r.i r.o d ho (hJ.op r hr) hm hd).2 with h | h
              · exact hnp' r hr h
              · exact hnp r hr h
            · rcases (G0.ll r.i r.o i o t (hJ.op r hr) ho ht hd).2 with h | h
              · exact hnp r hr h
              · exact hnp' r hr h
          · rcases c4 i hin hnv hci with ⟨o'', q1, p, q2, q3, q4⟩ | h | ⟨o'', q1, hfl⟩
            · rw [ho] at q1; cases q1
              rcases hlv p (Nat.lt_trans (G0.lt i o ho p q2) hin) (hpl p q2) with h | ⟨f, hf, e⟩
              · exact absurd h q3
              · obtain ⟨of, tf, z1, z2, z3, z4, _⟩ := (hF f hf).op
                exact absurd ⟨⟨tf, z2⟩, z3, f.d, z4⟩ (q4 of (e ▸ z1))
            · have : L.getD c true = true := h.listed (L := fun x => L.getD x true = true) (fun x ox hx hox => hS.ld x ox hx hox) (fun o'' ho'' p hp => by rw [ho] at ho''; cases ho''; exact hpl p hp)
              rcases hlv c (lt_of_some ho') this with h | h
              · exact absurd h c1
              · exact absurd h hhc
            · rw [ho] at q1; cases q1
              obtain ⟨⟨t, z2⟩, z3, d, z4⟩ := id hfl
              obtain ⟨cs, hz⟩ := Z i o t ho hfl z2
              obtain ⟨hany, hdn⟩ := hA i o d ho hfl z4 hnv
              obtain ⟨c', e', y1, y2, y3⟩ := fl_run ho z2 z3 z4 hz a w Q
              have hold : ∀ k, k < w.heap.size → (w.alloc (.cells c' e')).heap[k]? = w.heap[k]? := fun k hk => by
                show (w.heap.push _)[k]? = _
                rw [Array.getElem?_push, if_neg (by omega)]
              have hnew : (w.alloc (.cells c' e')).heap[w.heap.size]? = some (.cells c' e' (0, 0)) := by
                show (w.heap.push _)[_]? = _
                simp
              have hcell : ∀ b o, g.S b o → (w.alloc (.cells c' e')).cell? ⟨b, o, none⟩ = w.cell? ⟨b, o, none⟩ := fun b o hs => cell_other (hold b (hJ.hp.lt hs))
              have hpn : ∀ r ∈ ps, r.i ∉ pre o := fun r hr hm => by
                have h2 := (hS.un r.i (lt_of_some (hJ.op r hr))).2 (.inr ⟨r, hr, rfl⟩)
                rw [hpl r.i hm] at h2; cases h2
              refine y3 _ (ih m ((c, .ch D pp) :: rest) V s ps (⟨i, d, w.heap.size⟩ :: fs) g _ _ _ k ⟨put_size.trans hJ.n, put_defers.trans hJ.df, hJ.hp.more _, fun u hu => ?_, hJ.op, hJ.sn, hJ.dv, hJ.re, hJ.sh, hJ.no, fun r hr u hu => ?_, hJ.ds⟩ hk ⟨o', ho', hW⟩ ⟨c1, c2, c3, c4, c5, c6⟩
                ⟨by simp [hS.sz], fun j hj => ?_, fun f hf => ?_, fun f hf f' hf' e => ?_, fun f hf f' hf' e => ?_, hS.vu, hS.vd, hld, hS.uq, hS.pv⟩ (fun f hf => ?_) hA hfu fun s'' g'' a'' w'' p1 p2 p3 => hQ s'' g'' a'' w'' p1 (ToF.trans (F' := fb (⟨i, d, w.heap.size⟩ :: fs)) (g' := g) (hp' := s.hp) (w' := w.alloc (.cells c' e')) ⟨⟨rfl, rfl, rfl, (by show _ ≤ (w.heap.push _).size; simp), fun b hb _ => hold b hb, fun b f hb _ => cell_other (hold b hb), fun b c e fr hc => ⟨c, (hold b (Array.getElem?_eq_some_iff.1 hc).1).trans hc, rfl⟩, fun _ _ h => h, fun _ _ h => .inl h, fun b f ho => ?_⟩, fun _ _ => ⟨rfl, rfl⟩, hk⟩ p2) p3)
              · by_cases e : u = d
                · subst e; rw [hany]; exact .any
                · rw [getD_put fun q => e (by simpa using q.symm)]
                  exact Rel.mono (g := g) (g' := g) (fun _ _ h => h) hcell (hJ.tm u hu) fun _ _ => ⟨rfl, rfl⟩
              · rcases hJ.lo r hr u hu with q | ⟨q1, q2⟩
                · exact .inl q
                · refine .inr ⟨q1, ?_⟩
                  rw [getD_put fun q => ?_]
                  · exact Rel.mono (g := g) (g' := g) (fun _ _ h => h) hcell q2 fun _ _ => ⟨rfl, rfl⟩
                  · rcases (G0.ll r.i r.o i o u (hJ.op r hr) ho hu (z4.trans q)).2 with h | h
                    · exact hnv (hS.vd r.i r.o (hS.inV_ps hr) (hJ.op r hr) i h)
                    · exact hpn r hr h
              · rw [getD_set (by rw [hS.sz]; exact hin)]
                by_cases e : i = j
                · subst e
                  rw [if_pos rfl]
                  refine ⟨fun h => (by cases h), fun h => ?_⟩
                  rcases h with h | h
                  · exact absurd ⟨_, List.mem_cons_self, rfl⟩ h.2
                  · exact absurd h hps
                · rw [if_neg e, hS.un j hj]
                  refine or_congr (and_congr_right fun _ => not_congr ⟨fun ⟨f, hf, q⟩ => ⟨f, List.mem_cons_of_mem _ hf, q⟩, fun ⟨f, hf, q⟩ => ?_⟩) Iff.rfl
                  rcases List.mem_cons.1 hf with rfl | hf
                  · exact absurd q e
                  · exact ⟨f, hf, q⟩
              · rcases List.mem_cons.1 hf with rfl | hf
                · exact hnv
                · exact hS.fv f hf
              · rcases List.mem_cons.1 hf with rfl | hf <;> rcases List.mem_cons.1 hf' with rfl | hf'
                · rfl
                · exact absurd ⟨f', hf', e⟩ hnf
                · exact absurd ⟨f, hf, e.symm⟩ hnf
                · exact hS.fq f hf f' hf' e
              · have hlt : ∀ f ∈ fs, f.b < w.heap.size := fun f hf => by
                  obtain ⟨of, tf, _, _, _, _, cs, c, e, _, z6, _⟩ := (hF f hf).op
                  exact (Array.getElem?_eq_some_iff.1 z6).1
                rcases List.mem_cons.1 hf with rfl | hf <;> rcases List.mem_cons.1 hf' with rfl | hf'
                · exact absurd rfl e
                · exact Nat.ne_of_lt (hlt f' hf')
                · exact (Nat.ne_of_lt (hlt f hf)).symm
                · exact hS.fd f hf f' hf' e
              · rcases List.mem_cons.1 hf with rfl | hf
                · refine ⟨⟨o, t, ho, z2, z3, z4, cs, c', e', hz, hnew, y1, y2⟩, hany, getD_put_same (by rw [hJ.n]; exact hdn), fun o1 ⟨n, ob, h1, h2⟩ => ?_, fun o1 h1 => ?_⟩
                  · have := own_lt hJ.hp h1 h2; exact Nat.lt_irrefl _ this
                  · exact Nat.lt_irrefl _ (hJ.hp.lt h1)
                · have hq := hF f hf
                  obtain ⟨of, tf, x1, x2, x3, x4, cs', c1', e1', x5, x6, x7⟩ := hq.op
                  refine ⟨⟨of, tf, x1, x2, x3, x4, cs', c1', e1', x5, (hold f.b (Array.getElem?_eq_some_iff.1 x6).1).trans x6, x7⟩, hq.an, (getD_put fun e => G0.dd i o f.i of ho x1 (fun e => hnf ⟨f, hf, e.symm⟩) (by rw [z4]; simp) (by rw [z4, e, x4])).trans hq.sl, hq.no, hq.ns⟩
              · rcases ho with ho | ⟨x, hx, e⟩
                · exact .inl (.inl ho)
                · rcases List.mem_cons.1 hx with rfl | hx
                  · exact .inr (Nat.le_of_eq e)
                  · exact .inl (.inr ⟨x, hx, e⟩)
        | pu => exact absurd (hhd _ _ _ rfl).1 id
        | la ls => exact absurd (hhd _ _ _ rfl).1 id
theorem any_adopt (G0 : Gd ops) {i : Nat} {D : List Nat} {pp : Bool} {f : Flt} (hf : f ∈ fs) (hi : f.i = i) (hJ : J P ops g s ps a w) (hk : KIn K s.hp) (hW : WDo P K ops m ((i, .ch D pp) :: rest) s k) (hC : Chk ops V ((i, .ch D pp) :: rest)) (hS : Sta ops K m V ps fs L)
    (hF : ∀ f ∈ fs, FlOk P ops g s a w f) (hA : AnyF ops V s) :
    ∃ s' g' fs', J P ops g' s' ps a w ∧ ToF K g s.hp (fb fs) w g' s'.hp (fb fs') w ∧ WDo P K ops (m && pp) rest s' k ∧ Chk ops ((i, .ch D pp) :: V) rest ∧ Sta ops K (m && pp) ((i, .ch D pp) :: V) ps fs' L ∧ (∀ f ∈ fs', FlOk P ops g' s' a w f) ∧ AnyF ops ((i, .ch D pp) :: V) s' := by
  subst hi
  obtain ⟨o, ho, hW⟩ := hW
  obtain ⟨c1, c2, c3, c4, c5, c6⟩ := hC
  have hin := lt_of_some ho
  have hLi : L.getD f.i true = true := by
    cases hl : L.getD f.i true
    · rcases (hS.un f.i hin).1 hl with h | ⟨r, hr, e⟩
      · exact absurd ⟨f, hf, rfl⟩ h.2
      · exact absurd (e ▸ hS.inV_ps hr) c1
    · rfl
  have hnanc : ∀ r ∈ ps, ∀ c, L.getD c true = true → ¬ Anc ops r.i c := fun r hr c hc h => by
    have h1 : L.getD r.i true = true := h.listed (L := fun x => L.getD x true = true) (fun x ox hx hox => hS.ld x ox hx hox) (fun o'' ho'' p hp => hS.ld c o'' hc ho'' p hp)
    have h2 := (hS.un r.i (lt_of_some (hJ.op r hr))).2 (.inr ⟨r, hr, rfl⟩)
    rw [h1] at h2; cases h2
  have hc5 : ∀ r ∈ ps, ∀ kd, (r.i, kd) ∈ V → ¬ isCh kd → pp = true ∧ (∃ ls, kd = .la ls) ∧ ∀ o d, ops[r.i]? = some o → o.dst = some d → d ∈ D := fun r hr kd p1 p2 => by
    rcases c5 r.i kd p1 p2 with h | ⟨c, kc, h1, h2, h3⟩ | h
    · exact absurd h (hnanc r hr f.i hLi)
    · refine absurd h3 (hnanc r hr c ?_)
      have hcl : c < ops.size := by
        cases h3 with
        | base ho _ => exact lt_of_some ho
        | step ho _ _ => exact lt_of_some ho
      exact hS.doneCh h1 h2 hcl
    · exact h
  have hlm : ∀ r ∈ ps, (r.s.hp = [] ∨ (m && pp) = true) ∧ ∀ t ∈ r.o.looksAt ops, ∀ n ∈ (r.s.get t).refs, n ∈ K := fun r hr => by
    obtain ⟨kd, p1, p2, p3⟩ := hS.pv r hr
    obtain ⟨q0, ⟨ls, h⟩, _⟩ := hc5 r hr kd p1 p2
    exact ⟨(p3 ls h).1.imp id fun e => by rw [e, q0]; rfl, (p3 ls h).2⟩
  obtain ⟨of, tf, z1, z2, z3, z4, _⟩ := (hF f hf).op
  rw [ho] at z1; cases z1
  have hne : ∀ r ∈ ps, r.i ≠ f.i := fun r hr e => c1 (e ▸ hS.inV_ps hr)
  have hmem : ∀ x, x ∈ fs.filter (fun x => !(Nat.beq x.i f.i)) ↔ x ∈ fs ∧ x.i ≠ f.i := fun x => by
    simp only [List.mem_filter, Bool.not_eq_true']
    refine and_congr_right fun _ => ⟨fun h e => ?_, fun h => ?_⟩
    · rw [e] at h; simp at h
    · cases hb : Nat.beq x.i f.i
      · rfl
      · exact absurd (Nat.eq_of_beq_eq_true hb) h
  obtain ⟨s', g', h1, h2, h3, h4, h5, h6, h7⟩ := (hF f hf).adopt hJ hk ho hW (fun r hr e => G0.dd r.i r.o f.i o (hJ.op r hr) ho (hne r hr) (by rw [e]; simp) (by rw [e, z4])) hlm (fun r hr ht => by
    rcases (G0.ll r.i r.o f.i o f.d (hJ.op r hr) ho ht z4).2 with h | h
    · exact c1 (hS.vd r.i r.o (hS.inV_ps hr) (hJ.op r hr) f.i h)
    · exact hnanc r hr f.i hLi (.base ho h)) (fb fs) (fb (fs.filter fun x => !(Nat.beq x.i f.i))) ⟨f, hf, rfl⟩ (fun b ⟨x, hx, e⟩ => ⟨x, ((hmem x).1 hx).1, e⟩)
  have hn : s'.n = s.n := h1.n.symm.trans hJ.n
  refine ⟨s', g', _, h1, h2, h4, c3, ⟨hS.sz, fun j hj => ?_, fun x hx hv => ?_, fun x hx y hy e => hS.fq x ((hmem x).1 hx).1 y ((hmem y).1 hy).1 e, fun x hx y hy e => hS.fd x ((hmem x).1 hx).1 y ((hmem y).1 hy).1 e, fun j k1 k2 y1 y2 => ?_, fun j o' hj ho' p hp => ?_, hS.ld, hS.uq, fun r hr => ?_⟩, fun x hx => ?_, fun j o' d hj hfl hd hv => ?_⟩
  · rw [hS.un j hj, inV_cons]
    by_cases e : j = f.i
    · subst e
      refine ⟨fun h => ?_, fun h => ?_⟩
      · rcases h with h | h
        · exact absurd ⟨f, hf, rfl⟩ h.2
        · exact .inr h
      · rcases h with h | h
        · exact absurd (.inl rfl) h.1
        · exact .inr h
    · refine or_congr (and_congr ⟨fun h h' => by rcases h' with h' | h'; exact e h'; exact h h', fun h h' => h (.inr h')⟩ (not_congr ⟨fun ⟨x, hx, q⟩ => ⟨x, (hmem x).2 ⟨hx, fun q' => e (q.symm.trans q')⟩, q⟩, fun ⟨x, hx, q⟩ => ⟨x, ((hmem x).1 hx).1, q⟩⟩)) Iff.rfl
  · obtain ⟨hx1, hx2⟩ := (hmem x).1 hx
    rcases inV_cons.1 hv with e | hv
    · exact hx2 e
    · exact hS.fv x hx1 hv
  · rcases List.mem_cons.1 y1 with y1 | y1 <;> rcases List.mem_cons.1 y2 with y2 | y2
    · cases y1; cases y2; rfl
    · cases y1; exact absurd ⟨k2, y2⟩ c1
    · cases y2; exact absurd ⟨k1, y1⟩ c1
    · exact hS.vu j k1 k2 y1 y2
  · rw [inV_cons] at hj ⊢
    rcases hj with rfl | hj
    · exact .inr (c2 o' ho' p hp)
    · exact .inr (hS.vd j o' hj ho' p hp)
  · obtain ⟨kd', q1, q2, q3⟩ := hS.pv r hr
    exact ⟨kd', List.mem_cons_of_mem _ q1, q2, fun ls e => hlm r hr⟩
  · obtain ⟨hx1, hx2⟩ := (hmem x).1 hx
    have hq := hF x hx1
    obtain ⟨ox, tx, x1, x2, x3, x4, _⟩ := hq.op
    refine ⟨hq.op, (h7 x.d fun e => G0.dd x.i ox f.i o x1 ho hx2 (by rw [x4]; simp) (by rw [x4, z4, e])).trans hq.an, hq.sl, fun o1 hO => ?_, fun o1 hO => hq.ns o1 (by rw [h6] at hO; exact hO)⟩
    rcases h5 x.b o1 hO with h | h
    · exact hq.no o1 h
    · exact hS.fd f hf x hx1 hx2 h
  · have hv' : ¬ inV V j := fun h => hv (inV_cons.2 (.inr h))
    have hjf : j ≠ f.i := fun e => hv (inV_cons.2 (.inl e))
    obtain ⟨y1, y2⟩ := hA j o' d hj hfl hd hv'
    exact ⟨(h7 d fun e => G0.dd j o' f.i o hj ho hjf (by rw [hd]; simp) (by rw [hd, z4, e])).trans y1, by rw [hn]; exact y2⟩
theorem any_head {kd0 : Kd} (hkd : ¬ isCh kd0) {i : Nat} (hW : WDo P K ops m ((i, kd0) :: rest) s k) (hF : ∀ f ∈ fs, FlOk P ops g s a w f) : ¬ ∃ f ∈ fs, f.i = i := fun ⟨f, hf, e⟩ => by
  subst e
  obtain ⟨o, ho, hW⟩ := hW
  obtain ⟨of, tf, z1, z2, z3, z4, _⟩ := (hF f hf).op
  rw [ho] at z1; cases z1
  have hno : ∀ s v, ¬ Redo P ops o s v := fun s v h => by
    unfold Redo at h
    rw [z3] at h
    simp only [z2, aval] at h
    cases h
  cases kd0 with
  | ch D p => exact hkd trivial
  | pu =>
    obtain ⟨v, _, h, _⟩ := hW
    exact hno _ _ h
  | la ls =>
    obtain ⟨_, _, v, _, h, _⟩ := hW
    exact hno _ _ h
end

theorem any_sound {K : List Nat} {ops : Array Oper} (G0 : Gd ops) (Z : FlZ P ops) {Q : Exit → Act → World → Prop} : ∀ (fuel : Nat), Inv P K ops Q fuel := by
  intro fuel
  have base : ∀ (fuel : Nat), (∀ (m : Bool) (rest V : List (Nat × Kd)) (s : St) (ps : List Rec) (fs : List Flt) (g : G) (L : Array Bool) (a : Act) (w : World) (k : St → Prop), (∀ i kd r, rest = (i, kd) :: r → isCh kd ∧ ¬ ∃ f ∈ fs, f.i = i) →
      J P ops g s ps a w → KIn K s.hp → WDo P K ops m rest s k → Chk ops V rest → Sta ops K m V ps fs L → (∀ f ∈ fs, FlOk P ops g s a w f) → AnyF ops V s → unl ops.size L ≤ fuel →
      (∀ s' g' a' w', Sim g' s' a' w' → ToF K g s.hp (fb fs) w g' s'.hp (fun _ => False) w' → k s' → Q .normal a' w') → wpAny P .any ops Q fuel L a w) → Inv P K ops Q fuel := by
    intro fuel hb m rest
    induction rest generalizing m with
    | nil =>
      intro V s ps fs g L a w k hJ hk hW hC hS hF hA hu hQ
      exact hb m [] V s ps fs g L a w k (fun _ _ _ e => by cases e) hJ hk hW hC hS hF hA hu hQ
    | cons it rest ihr =>
      intro V s ps fs g L a w k hJ hk hW hC hS hF hA hu hQ
      obtain ⟨i, kd⟩ := it
      by_cases hkd : isCh kd
      · by_cases hfi : ∃ f ∈ fs, f.i = i
        · obtain ⟨f, hf, hi⟩ := hfi
          cases kd with
          | ch D pp =>
            obtain ⟨s', g', fs', h1, h2, h3, h4, h5, h6, h7⟩ := any_adopt G0 hf hi hJ hk hW hC hS hF hA
            exact ihr (m && pp) _ s' _ fs' g' L a w k h1 h2.ki h3 h4 h5 h6 h7 hu fun s'' g'' a'' w'' p1 p2 p3 => hQ s'' g'' a'' w'' p1 (h2.trans p2) p3
          | pu => exact hkd.elim
          | la ls => exact hkd.elim
        · exact hb m ((i, kd) :: rest) V s ps fs g L a w k (fun _ _ _ e => by cases e; exact ⟨hkd, hfi⟩) hJ hk hW hC hS hF hA hu hQ
      · obtain ⟨m', s', r, h1, h2, h3, h4, h5, h6, h7⟩ := any_pure G0 hkd (any_head hkd hW hF) hJ hW hC hS hF hA
        exact ihr m' _ s' _ fs g L a w k h1 (by rw [h2]; exact hk) h3 h4 h5 h6 h7 hu (by rw [h2]; exact hQ)
  induction fuel with
  | zero =>
    refine base 0 fun m rest V s ps fs g L a w k hhd hJ hk hW hC hS hF hA hu hQ => ?_
    have hall : ∀ i, i < ops.size → L.getD i true = true := fun i hi => by
      have h0 : unl ops.size L = 0 := by omega
      unfold unl at h0
      rw [List.countP_eq_zero] at h0
      have := h0 i (List.mem_range.2 hi)
      simpa using this
    refine ⟨?_, any_fin (fun i kd r e => (hhd i kd r e).2) hJ hk hW hC hS hF hQ hall⟩
    cases hr : Region.ready .any ops L with
    | nil => rfl
    | cons i r =>
      have : i ∈ Region.ready .any ops L := by rw [hr]; exact List.mem_cons_self
      obtain ⟨h1, o, ho, _⟩ := mem_ready.1 this
      rw [hall i (lt_of_some ho)] at h1
      cases h1
  | succ fuel ih =>
    exact base (fuel + 1) fun m rest V s ps fs g L a w k hhd hJ hk hW hC hS hF hA hu hQ => any_step G0 Z ih hhd hJ hk hW hC hS hF hA hu hQ

theorem W_more {K K' : List Nat} {c : Code} {s : St} {Q : Exit → St → Prop} (h1 : ∀ n ∈ K, n ∈ K') (h2 : KIn K' s.hp) (h : W P K' c s Q) : W P K c s Q := fun g a w hk hs =>
  wp_mono (h g a w h2 hs) fun e a' w' ⟨s', g', q1, q2, q3⟩ => ⟨s', g', q1, ⟨q2.ev, fun n hn => q2.ks n (h1 n hn), fun n hn => q2.ki n (h1 n hn)⟩, q3⟩
theorem W_any {K : List Nat} {ops : Array Oper} (hm : P.follows .mixedOrders = true) (G0 : Gd ops) (Z : FlZ P ops) {rest : List (Nat × Kd)} (hC : Chk ops [] rest) {id : Nat} {s : St} (hA : AnyF ops [] s) {Q : Exit → St → Prop} (h : WDo P K ops false rest s (Q .normal)) : W P K (.region id ops true) s Q := fun g a w hk hs => by
  refine wp_region_any hm ?_
  have hsim : SimH g s.hp { w with drawn := w.drawn + 1 } := hs.hp.world rfl
  have hto : To K g s.hp w g s.hp { w with drawn := w.drawn + 1 } := ⟨Ev.world rfl rfl rfl rfl (fun _ _ => Iff.rfl) (fun _ _ h => h), fun _ _ => ⟨rfl, rfl⟩, hk⟩
  have htm : ∀ t, Rel g { w with drawn := w.drawn + 1 } (a.tmps.getD t undef) (s.get t) := fun t => Rel.mono (g := g) (w := w) (g' := g) (w' := { w with drawn := w.drawn + 1 }) (fun _ _ h => h) (fun b o _ => rfl) (hs.tm t) fun _ _ => ⟨rfl, rfl⟩
  have hno : ∀ {p : Rec → Prop}, ∀ r ∈ ([] : List Rec), p r := fun r hr => by cases hr
  have hnf : ∀ {p : Flt → Prop}, ∀ r ∈ ([] : List Flt), p r := fun r hr => by cases hr
  have hfb : fb [] = fun _ => False := by funext b; simp [fb]
  refine any_sound G0 Z ops.size false rest [] s [] [] g _ a _ _ ⟨hs.n, hs.df, hsim, fun t _ => htm t, hno, hno, hno, hno, hno, hno, hno, hno⟩ hk h hC ⟨by simp, fun i hi => ?_, hnf, hnf, hnf, fun i k1 k2 h => (by cases h), fun i o hi => ?_, fun i o hi ho p hp => ?_, hno, hno⟩ hnf hA (by unfold unl; exact Nat.le_trans (List.countP_le_length) (by simp)) fun s' g' a' w' p1 p2 p3 => ⟨s', g', p1, hto.trans (by rw [hfb] at p2; exact p2.toTo), p3⟩
  · simp [hi, inV]
  · obtain ⟨kd, h⟩ := hi; cases h
  · simp [lt_of_some ho] at hi
end Go.Wl

/- Values and memory told without addresses: which order one walks in. -/
set_option linter.unusedVariables false
set_option linter.unusedSimpArgs false
namespace Go.Wl
variable {P : Program}

structure Inf where
  lo : List Nat
  pr : List Nat
  ds : Option Nat
  pu : Bool
  fl : Bool
def flB (o : Oper) : Bool := match o.op, o.guard, o.dst with
  | .alloc _, none, some _ => true
  | _, _, _ => false
def inf (ops : Array Oper) (o : Oper) : Inf := ⟨o.looksAt ops, pre o, o.dst, isPure o.op, flB o⟩
def ia (l : List Inf) (i : Nat) : Inf := match l[i]? with
  | some x => x
  | none => ⟨[], [], none, true, false⟩
def ins (l : List Nat) (x : Nat) : List Nat := bif memb l x then l else x :: l
def un (l m : List Nat) : List Nat := m.foldl ins l
def ancOf (acc : List (List Nat)) (pr : List Nat) : List Nat := pr.foldl (fun l j => un (ins l j) (match acc[j]? with | some m => m | none => [])) []
def ancTab (l : List Inf) : List (List Nat) := l.foldl (fun acc x => acc ++ [ancOf acc x.pr]) []
def anc (tab : List (List Nat)) (i : Nat) : List Nat := match tab[i]? with
  | some m => m
  | none => []
def pick1 (p : Inf → Bool) (done : List Nat) : List (Nat × Inf) → Option Nat
  | [] => none
  | (i, x) :: r => bif p x && !memb done i && x.pr.all (memb done) then some i else pick1 p done r
def asap (l : List (Nat × Inf)) : Nat → List Nat → List Nat
  | 0, _ => []
  | f + 1, done => match pick1 (fun x => x.pu) done l with
    | some i => i :: asap l f (i :: done)
    | none => (match pick1 (fun x => !x.pu && !x.fl) done l with
      | some i => i :: asap l f (i :: done)
      | none => (match pick1 (fun x => x.fl) done l with
        | some i => i :: asap l f (i :: done)
        | none => []))
def pend (l : List Inf) (tab : List (List Nat)) (V : List Nat) (i : Nat) : List Nat := V.filter fun j => (ia l j).pu && !memb (anc tab i) j && !(V.any fun c => !(ia l c).pu && memb (anc tab c) j)
def fls (l : List Inf) (V : List Nat) (i : Nat) : List Nat := (List.range l.length).filter fun j => (ia l j).fl && !memb V j && !(Nat.beq j i)
def mkKd (l : List Inf) (tab : List (List Nat)) : List Nat → List Nat → List (Nat × Kd)
  | _, [] => []
  | V, i :: r => (i, bif (ia l i).pu then (bif (match r.find? (fun c => !(ia l c).pu) with | some c => !memb (anc tab c) i | none => false) then .la [] else .pu) else .ch ((pend l tab V i ++ fls l V i).filterMap fun j => (ia l j).ds) (match pend l tab V i with | [] => false | _ => true)) :: mkKd l tab (i :: V) r
def memV (V : List (Nat × Kd)) (i : Nat) : Bool := V.any fun p => Nat.beq p.1 i
def chB : Kd → Bool
  | .ch _ _ => true
  | _ => false
def laB : Kd → Bool
  | .la _ => true
  | _ => false
def chkB (l : List Inf) (tab : List (List Nat)) : List (Nat × Kd) → List (Nat × Kd) → Bool
  | V, [] => (List.range l.length).all (memV V)
  | V, (i, kd) :: r => !memV V i && (ia l i).pr.all (memV V) && (match kd with
    | .ch D pp => ((List.range l.length).all fun j => memV V j || Nat.beq j i || (ia l j).pr.any (fun p => !memV V p && !(ia l p).fl) || memb (anc tab j) i || (ia l j).fl) && (V.all fun p => chB p.2 || memb (anc tab i) p.1 || (V.any fun c => chB c.2 && memb (anc tab c.1) p.1) || (pp && laB p.2 && match (ia l p.1).ds with
        | some d => memb D d
        | none => true)) && (List.range l.length).all fun j => !(ia l j).fl || memV V j || Nat.beq j i || match (ia l j).ds with
        | some d => memb D d
        | none => true
    | _ => true) && chkB l tab ((i, kd) :: V) r
def gdB (l : List Inf) : Bool := (List.range l.length).all fun i => (ia l i).pr.all (fun p => Nat.blt p i) && (List.range l.length).all fun j => (match (ia l j).ds with
  | some t => (bif memb (ia l i).lo t then !(Nat.beq i j) && (memb (ia l i).pr j || memb (ia l j).pr i) else true) && (Nat.beq i j || match (ia l i).ds with
    | some t' => !(Nat.beq t' t)
    | none => true)
  | none => true)
def itemsS (ops : Array Oper) : List (Nat × Kd) → Option (List (Sop × Kd))
  | [] => some []
  | (i, kd) :: r => (match ops[i]? with
    | some o => (match copS ops [o], itemsS ops r with
      | some [x], some l => some ((x, match kd with
        | .la _ => .la (o.looksAt ops)
        | kd => kd) :: l)
      | _, _ => none)
    | none => none)
def enum {α : Type} : Nat → List α → List (Nat × α)
  | _, [] => []
  | n, x :: r => (n, x) :: enum (n + 1) r
def items (ops : Array Oper) : Option (List (Nat × Kd)) :=
  let l := ops.toList.map (inf ops)
  let tab := ancTab l
  let r := mkKd l tab [] (asap (enum 0 l) l.length [])
  bif Region.noSelect ops && gdB l && chkB l tab [] r then some r else none
def flD : List (Sop × Kd) → List (Nat × TypeId)
  | [] => []
  | (⟨some d, .alloc t, none⟩, _) :: r => (d, t) :: flD r
  | _ :: r => flD r
def flIn (l : List (Sop × Kd)) (o : Oper) : Bool := match o.op, o.guard, o.dst with
  | .alloc t, none, some d => (flD l).any fun p => Nat.beq p.1 d && Nat.beq p.2 t
  | _, _, _ => true
def copD (ops : Array Oper) : Option (List (Sop × Kd)) := match items ops with
  | some r => (match itemsS ops r with
    | some l => bif ops.toList.all (flIn l) then some l else none
    | none => none)
  | none => none
theorem flB_spec {o : Oper} : flB o = true ↔ isFl o := by
  unfold flB isFl
  constructor
  · intro h
    split at h
    · rename_i t d h1 h2 h3
      exact ⟨⟨t, h1⟩, h2, d, h3⟩
    · cases h
  · rintro ⟨⟨t, h1⟩, h2, d, h3⟩
    rw [h1, h2, h3]

theorem ia_spec {ops : Array Oper} {i : Nat} {o : Oper} (h : ops[i]? = some o) : ia (ops.toList.map (inf ops)) i = inf ops o := by
  unfold ia
  simp [h]
theorem mem_ins {l : List Nat} {x y : Nat} (h : y ∈ ins l x) : y ∈ l ∨ y = x := by
  unfold ins at h
  cases hm : memb l x
  · rw [hm] at h
    simp only [cond_false] at h
    rcases List.mem_cons.1 h with h | h
    · exact .inr h
    · exact .inl h
  · rw [hm] at h; exact .inl h
theorem mem_un {m : List Nat} : ∀ {l : List Nat} {y : Nat}, y ∈ un l m → y ∈ l ∨ y ∈ m := by
  induction m with
  | nil => exact fun h => .inl h
  | cons x r ih =>
    intro l y h
    rcases ih (l := ins l x) h with h | h
    · rcases mem_ins h with h | h
      · exact .inl h
      · exact .inr (h ▸ List.mem_cons_self)
    · exact .inr (List.mem_cons_of_mem _ h)
theorem mem_ancOf {acc : List (List Nat)} {pr : List Nat} : ∀ {l : List Nat} {y : Nat}, y ∈ pr.foldl (fun l j => un (ins l j) (match acc[j]? with | some m => m | none => [])) l → y ∈ l ∨ ∃ j ∈ pr, y = j ∨ y ∈ anc acc j := by
  induction pr with
  | nil => exact fun h => .inl h
  | cons j r ih =>
    intro l y h
    rcases ih h with h | ⟨j', h1, h2⟩
    · rcases mem_un h with h | h
      · rcases mem_ins h with h | h
        · exact .inl h
        · exact .inr ⟨j, List.mem_cons_self, .inl h⟩
      · exact .inr ⟨j, List.mem_cons_self, .inr h⟩
    · exact .inr ⟨j', List.mem_cons_of_mem _ h1, h2⟩
theorem ancTab_spec {ops : Array Oper} : ∀ (r : List Inf) (acc : List (List Nat)), (∀ k, r[k]? = (ops.toList.map (inf ops))[acc.length + k]?) → (∀ i y, y ∈ anc acc i → Anc ops y i) →
    ∀ i y, y ∈ anc (r.foldl (fun acc x => acc ++ [ancOf acc x.pr]) acc) i → Anc ops y i := by
  intro r
  induction r with
  | nil => exact fun acc _ h => h
  | cons x r ih =>
    intro acc hl h
    refine ih (acc ++ [ancOf acc x.pr]) (fun k => ?_) ?_
    · have := hl (k + 1)
      rw [List.getElem?_cons_succ] at this
      rw [this, List.length_append, List.length_singleton]
      congr 1; omega
    · intro i y hy
      unfold anc at hy
      split at hy
      · rename_i m hm
        rw [List.getElem?_append] at hm
        split at hm
        · exact h i y (by unfold anc; rw [hm]; exact hy)
        · rename_i hi
          have he : i = acc.length := by
            have := (List.getElem?_eq_some_iff.1 hm).1
            simp at this; omega
          subst he
          simp only [Nat.sub_self, List.getElem?_cons_zero, Option.some.injEq] at hm
          subst hm
          have h0 := hl 0
          simp only [List.getElem?_cons_zero, Nat.add_zero, List.getElem?_map, Array.getElem?_toList] at h0
          obtain ⟨o, ho, e⟩ := Option.map_eq_some_iff.1 h0.symm
          have hx : x.pr = pre o := by rw [← e]; rfl
          rcases mem_ancOf hy with h1 | ⟨j, h1, h2⟩
          · cases h1
          · rw [hx] at h1
            rcases h2 with rfl | h2
            · exact .base ho h1
            · exact .step ho h1 (h j y h2)
      · cases hy
theorem memV_spec {V : List (Nat × Kd)} {i : Nat} : memV V i = true ↔ inV V i := by
  unfold memV inV
  simp only [List.any_eq_true]
  constructor
  · rintro ⟨⟨j, kd⟩, h1, h2⟩
    exact ⟨kd, by rw [← Nat.eq_of_beq_eq_true h2]; exact h1⟩
  · rintro ⟨kd, h⟩
    exact ⟨(i, kd), h, by simp⟩
theorem memV_f {V : List (Nat × Kd)} {i : Nat} : memV V i = false ↔ ¬ inV V i := by
  rw [← memV_spec]; simp
theorem chkB_spec {ops : Array Oper} {tab : List (List Nat)} (ht : ∀ i y, y ∈ anc tab i → Anc ops y i) : ∀ (r V : List (Nat × Kd)), (∀ i kd, (i, kd) ∈ r → i < ops.size) → (∀ i kd, (i, kd) ∈ V → i < ops.size) → chkB (ops.toList.map (inf ops)) tab V r = true → Chk ops V r
  | [], V, _, _, h => fun i hi => by
    simp only [chkB, List.all_eq_true, List.length_map, List.mem_range] at h
    exact memV_spec.1 (h i (by simpa using hi))
  | (i, kd) :: r, V, hr, hV, h => by
    have hi := hr i kd List.mem_cons_self
    have ho : ops[i]? = some ops[i] := Array.getElem?_eq_getElem hi
    simp only [chkB, Bool.and_eq_true, Bool.not_eq_true'] at h
    obtain ⟨⟨⟨h1, h2⟩, h3⟩, h4⟩ := h
    refine ⟨memV_f.1 h1, fun o ho' p hp => ?_, chkB_spec ht r _ (fun j kd' hj => hr j kd' (List.mem_cons_of_mem _ hj)) (fun j kd' hj => ?_) h4, ?_⟩
    · rw [ia_spec ho', List.all_eq_true] at h2
      exact memV_spec.1 (h2 p hp)
    · rcases List.mem_cons.1 hj with e | hj
      · cases e; exact hi
      · exact hV j kd' hj
    · cases kd with
      | ch D pp =>
        simp only [Bool.and_eq_true, List.all_eq_true, List.length_map, List.mem_range, Array.length_toList] at h3
        obtain ⟨⟨q1, q2⟩, q3⟩ := h3
        refine ⟨fun j hj hjv hji => ?_, fun j kd hj hkd => ?_, fun j o d hj hfl hd hjv hji => ?_⟩
        · have hoj : ops[j]? = some ops[j] := Array.getElem?_eq_getElem hj
          have := q1 j hj
          rw [ia_spec hoj] at this
          simp only [Bool.or_eq_true, List.any_eq_true, Bool.and_eq_true, Bool.not_eq_true'] at this
          rcases this with (((h | h) | ⟨p, h, h', hf⟩) | h) | h
          · exact absurd (memV_spec.1 h) hjv
          · exact absurd (Nat.eq_of_beq_eq_true h) hji
          · refine .inl ⟨_, hoj, p, h, memV_f.1 h', fun o' ho' hfl => ?_⟩
            rw [ia_spec ho'] at hf
            have : flB o' = false := hf
            rw [flB_spec.2 hfl] at this; cases this
          · exact .inr (.inl (ht j i ((memb_iff _ _).1 h)))
          · exact .inr (.inr ⟨_, hoj, flB_spec.1 h⟩)
        · have := q2 (j, kd) hj
          simp only [Bool.or_eq_true, Bool.and_eq_true, List.any_eq_true] at this
          rcases this with ((h | h) | ⟨⟨c, kc⟩, h, h1, h2⟩) | ⟨⟨hp, h⟩, h'⟩
          · cases kd <;> first | exact absurd trivial hkd | cases h
          · exact .inl (ht i j ((memb_iff _ _).1 h))
          · exact .inr (.inl ⟨c, kc, h, (by cases kc <;> first | trivial | cases h1), ht c j ((memb_iff _ _).1 h2)⟩)
          · refine .inr (.inr ⟨hp, (by cases kd <;> first | exact ⟨_, rfl⟩ | cases h), fun o d ho' hd => ?_⟩)
            rw [ia_spec ho'] at h'
            simp only [inf, hd] at h'
            exact (memb_iff _ _).1 h'
        · have := q3 j (lt_of_some hj)
          rw [ia_spec hj] at this
          simp only [Bool.or_eq_true, Bool.not_eq_true', inf, hd, flB_spec.2 hfl] at this
          rcases this with ((h | h) | h) | h
          · cases h
          · exact absurd (memV_spec.1 h) hjv
          · exact absurd (Nat.eq_of_beq_eq_true h) hji
          · exact (memb_iff _ _).1 h
      | _ => trivial
theorem gdB_spec {ops : Array Oper} (hs : Region.noSelect ops = true) (h : gdB (ops.toList.map (inf ops)) = true) : Gd ops := by
  simp only [gdB, List.all_eq_true, Bool.and_eq_true, List.length_map, List.mem_range, Array.length_toList] at h
  refine ⟨fun i o ho p hp => ?_, fun i o j o' ho ho' hne hd he => ?_, fun i o j o' t ho ho' ht hd => ?_, fun i o ho cs b => Region.noSelect_spec hs i o cs b ho⟩
  · have := (h i (lt_of_some ho)).1 p (by rw [ia_spec ho]; exact hp)
    exact Nat.le_of_ble_eq_true this
  · have := (h i (lt_of_some ho)).2 j (lt_of_some ho')
    rw [ia_spec ho, ia_spec ho'] at this
    cases hd' : o'.dst with
    | none => rw [hd'] at he; exact hd he
    | some t =>
      rw [hd'] at he
      simp only [inf, hd', he, Bool.and_eq_true, Bool.or_eq_true, Bool.not_eq_true'] at this
      rcases this.2 with e | e
      · exact hne (Nat.eq_of_beq_eq_true e)
      · simp at e
  · have := (h i (lt_of_some ho)).2 j (lt_of_some ho')
    rw [ia_spec ho, ia_spec ho'] at this
    simp only [inf, hd, Bool.and_eq_true] at this
    have h1 := this.1
    rw [(memb_iff _ _).2 ht] at h1
    simp only [cond_true, Bool.and_eq_true, Bool.or_eq_true, Bool.not_eq_true', memb_iff] at h1
    refine ⟨fun e => ?_, h1.2⟩
    subst e
    simp at h1
theorem items_lt {ops : Array Oper} : ∀ {r : List (Nat × Kd)} {l : List (Sop × Kd)}, itemsS ops r = some l → ∀ i kd, (i, kd) ∈ r → i < ops.size
  | [], l, h, i, kd, hm => by cases hm
  | (j, kj) :: r, l, h, i, kd, hm => by
    simp only [itemsS] at h
    split at h
    · rename_i o ho
      split at h
      · rename_i x l' h1 h2
        rcases List.mem_cons.1 hm with e | hm
        · cases e; exact lt_of_some ho
        · exact items_lt h2 i kd hm
      · cases h
    · cases h
theorem copD_spec {ops : Array Oper} {l : List (Sop × Kd)} (h : copD ops = some l) : Gd ops ∧ (∃ r, Chk ops [] r ∧ itemsS ops r = some l) ∧ ∀ (j : Nat) (o : Oper), ops[j]? = some o → flIn l o = true := by
  unfold copD at h
  split at h
  · rename_i r hr
    split at h
    case h_2 => cases h
    rename_i l' hl'
    cases hfl : ops.toList.all (flIn l') <;> rw [hfl] at h
    · cases h
    simp only [cond_true, Option.some.injEq] at h; subst h
    have h := hl'
    have hfl2 : ∀ (j : Nat) (o : Oper), ops[j]? = some o → flIn l' o = true := fun j o ho => List.all_eq_true.1 hfl o (List.mem_of_getElem? (by rw [Array.getElem?_toList]; exact ho))
    unfold items at hr
    dsimp only at hr
    generalize hB : (Region.noSelect ops && gdB (ops.toList.map (inf ops)) && chkB (ops.toList.map (inf ops)) (ancTab (ops.toList.map (inf ops))) [] _) = B at hr
    cases B with
    | false => cases hr
    | true =>
      simp only [cond_true, Option.some.injEq] at hr
      simp only [Bool.and_eq_true] at hB
      rw [hr] at hB
      exact ⟨gdB_spec hB.1.1 hB.1.2, ⟨r, chkB_spec (fun i y hy => ancTab_spec _ [] (fun k => by simp) (fun i y hy => by simp [anc] at hy) i y hy) r [] (items_lt h) (fun _ _ h => by cases h) hB.2, h⟩, hfl2⟩
  · cases h

/-- The operations, told briefly. -/
def sameOn : List Nat → St → St → Prop
  | [], _, _ => True
  | t :: r, s', s => s'.get t = s.get t ∧ sameOn r s' s
theorem sameOn_spec {D : List Nat} {s' s : St} (h : sameOn D s' s) : ∀ t ∈ D, s'.get t = s.get t := by
  induction D with
  | nil => simp
  | cons t r ih =>
    intro x hx
    rcases List.mem_cons.1 hx with rfl | hx
    · exact h.1
    · exact ih h.2 x hx
def laOK (K : List Nat) (s : St) (ls : List Nat) : Bool := ls.all fun t => ((s.get t).refs).all (memb K)
def aopD (P : Program) (d : Option Nat) (op : Op) (s0 s : St) : Option St := ob (aval P op s0) (s.setv d)
def pureS (P : Program) (o : Sop) (s0 s : St) (k : St → Prop) : Prop := match o.g with
  | none => opt (aopD P o.d o.op s0 s) k
  | some (t, w) => gdOf (gdv (s.get t) w) fun b => (b = true → opt (aopD P o.d o.op s0 s) k) ∧ (b = false → opt (s.setv o.d und) k)
def WDs (P : Program) (K : List Nat) : Bool → List (Sop × Kd) → St → (St → Prop) → Prop
  | _, [], s, k => k s
  | m, (o, .ch D p) :: r, s, k => WRs P K [o] s fun s' => sameOn D s' s ∧ ((m && p) = true → s'.hp = s.hp) ∧ WDs P K (m && p) r s' k
  | m, (o, .pu) :: r, s, k => pureS P o s s fun s' => WDs P K m r s' k
  | m, (o, .la ls) :: r, s, k => laOK K s ls = true ∧ ∃ e : Bool, pureS P o { s with hp := bif e then s.hp else [] } s fun s' => WDs P K (m || e) r s' k

theorem copS_one {ops : Array Oper} {o : Oper} {x : Sop} (h : copS ops [o] = some [x]) : x.d = o.dst ∧ x.op = o.op ∧ match x.g with
    | none => o.guard = none
    | some (t, w) => ∃ j, o.guard = some (j, w) ∧ (ops[j]?).bind (·.dst) = some t := by
  simp only [copS] at h
  split at h
  · rename_i l h1 h2
    simp only [Option.some.injEq] at h2; subst h2
    simp only [Option.some.injEq, List.cons.injEq, and_true] at h; subst h
    exact ⟨rfl, rfl, h1⟩
  · rename_i j w l h1 h2
    split at h
    · rename_i t ht
      simp only [Option.some.injEq] at h2; subst h2
      simp only [Option.some.injEq, List.cons.injEq, and_true] at h; subst h
      exact ⟨rfl, rfl, j, h1, ht⟩
    · cases h
  · cases h
theorem pureS_redo {ops : Array Oper} {o : Oper} {x : Sop} (hx : copS ops [o] = some [x]) {s : St} {hp : Hp} {k : St → Prop} (h : pureS P x { s with hp := hp } s k) : ∃ v s', Redo P ops o { s with hp := hp } v ∧ s.setv o.dst v = some s' ∧ k s' := by
  obtain ⟨e1, e2, e3⟩ := copS_one hx
  have hD : opt (aopD P x.d x.op { s with hp := hp } s) k → ∃ v s', aval P o.op { s with hp := hp } = some v ∧ s.setv o.dst v = some s' ∧ k s' := fun h => by
    unfold aopD at h
    rw [e1, e2] at h
    cases ha : aval P o.op { s with hp := hp } with
    | none => rw [ha] at h; exact h.elim
    | some v =>
      rw [ha] at h
      simp only [ob] at h
      cases hb : s.setv o.dst v with
      | none => rw [hb] at h; exact h.elim
      | some s' => rw [hb] at h; exact ⟨v, s', rfl, hb, h⟩
  unfold pureS at h
  split at h
  · rename_i hg
    rw [hg] at e3
    obtain ⟨v, s', h1, h2, h3⟩ := hD h
    exact ⟨v, s', by unfold Redo; rw [e3]; exact h1, h2, h3⟩
  · rename_i t w hg
    rw [hg] at e3
    obtain ⟨j, e4, e5⟩ := e3
    unfold gdOf at h
    split at h
    · rename_i b hb
      have hgd : gd ops { s with hp := hp } j w = some b := by
        unfold gd
        rw [e5]
        exact hb
      cases b with
      | true =>
        obtain ⟨v, s', h1, h2, h3⟩ := hD (h.1 rfl)
        refine ⟨v, s', ?_, h2, h3⟩
        unfold Redo
        rw [e4]
        exact ⟨true, hgd, fun _ => h1, fun e => by cases e⟩
      | false =>
        have h2 := h.2 rfl
        rw [e1] at h2
        cases hb2 : s.setv o.dst und with
        | none => rw [hb2] at h2; exact h2.elim
        | some s' =>
          rw [hb2] at h2
          refine ⟨und, s', ?_, hb2, h2⟩
          unfold Redo
          rw [e4]
          exact ⟨false, hgd, fun e => (by cases e), fun _ => rfl⟩
    · exact h.elim
theorem WDs_WDo {K : List Nat} {ops : Array Oper} : ∀ {m : Bool} {r : List (Nat × Kd)} {l : List (Sop × Kd)} {s : St} {k : St → Prop}, itemsS ops r = some l → WDs P K m l s k → WDo P K ops m r s k
  | m, [], l, s, k, hi, h => by simp only [itemsS, Option.some.injEq] at hi; subst hi; exact h
  | m, (i, kd) :: r, l, s, k, hi, h => by
    simp only [itemsS] at hi
    split at hi
    · rename_i o ho
      split at hi
      · rename_i x l' h1 h2
        simp only [Option.some.injEq] at hi; subst hi
        refine ⟨o, ho, ?_⟩
        cases kd with
        | ch D p =>
          have := WRs_WR h1 h
          refine WR_mono ?_ this
          rintro s' ⟨q1, q2, q3⟩
          exact ⟨sameOn_spec q1, q2, WDs_WDo h2 q3⟩
        | pu =>
          obtain ⟨v, s', q1, q2, q3⟩ := pureS_redo (hp := s.hp) h1 h
          exact ⟨v, s', q1, q2, WDs_WDo h2 q3⟩
        | la ls =>
          obtain ⟨q0, e, h⟩ := h
          obtain ⟨v, s', q1, q2, q3⟩ := pureS_redo h1 h
          refine ⟨fun t ht n hn => ?_, e, v, s', q1, q2, WDs_WDo h2 q3⟩
          simp only [laOK, List.all_eq_true] at q0
          exact (memb_iff _ _).1 (q0 t ht n hn)
      · cases hi
    · cases hi
/-- Slots of variables that are made in the region hold nothing. -/
def flHas : List (Nat × TypeId) → Nat → Bool
  | [], _ => false
  | (d, _) :: r, t => bif Nat.beq d t then true else flHas r t
theorem flHas_any : ∀ (ds : List (Nat × TypeId)) (t : Nat), flHas ds t = ds.any fun p => Nat.beq p.1 t
  | [], t => rfl
  | (d, x) :: r, t => by
    simp only [flHas, List.any_cons, flHas_any r t]
    cases Nat.beq d t <;> rfl
def dropL (ds : List (Nat × TypeId)) : List (Nat × AV) → List (Nat × AV)
  | [] => []
  | (t, x) :: r => bif flHas ds t then dropL ds r else (t, x) :: dropL ds r
def St.drop (s : St) : List (Nat × TypeId) → St
  | [] => s
  | ds => { s with tm := dropL ds s.tm }
def flZ (P : Program) (n : Nat) : List (Nat × TypeId) → Bool
  | [] => true
  | (d, t) :: r => ltb d n && (match zv P t with | some _ => true | none => false) && flZ P n r
theorem lk_dropL (ds : List (Nat × TypeId)) : ∀ (l : List (Nat × AV)) (t : Nat), lk (dropL ds l) t = if ds.any (fun p => Nat.beq p.1 t) = true then none else lk l t
  | [], t => by simp [dropL, lk]
  | (u, x) :: r, t => by
    have ih := lk_dropL ds r t
    simp only [dropL, flHas_any]
    cases hu : ds.any (fun p => Nat.beq p.1 u)
    · simp only [cond_false, lk_cons]
      by_cases e : u = t
      · subst e; rw [if_pos rfl, if_pos rfl, hu]; rfl
      · rw [if_neg e, if_neg e]; exact ih
    · simp only [cond_true, lk_cons]
      by_cases e : u = t
      · subst e
        rw [ih, hu]; simp
      · rw [if_neg e]; exact ih
theorem drop_get (s : St) (ds : List (Nat × TypeId)) (t : Nat) : (s.drop ds).get t = if ds.any (fun p => Nat.beq p.1 t) = true then .any else s.get t := by
  cases ds with
  | nil => simp [St.drop]
  | cons x r =>
    unfold St.drop St.get
    simp only [lk_dropL]
    cases (x :: r).any fun p => Nat.beq p.1 t <;> simp
theorem drop_hp (s : St) (ds : List (Nat × TypeId)) : (s.drop ds).hp = s.hp ∧ (s.drop ds).n = s.n := by cases ds <;> exact ⟨rfl, rfl⟩
theorem W_drop {K : List Nat} {c : Code} {s : St} {Q : Exit → St → Prop} (ds : List (Nat × TypeId)) (h : W P K c (s.drop ds) Q) : W P K c s Q := fun g a w hk hs => by
  obtain ⟨e1, e2⟩ := drop_hp s ds
  have hs2 : Sim g (s.drop ds) a w := ⟨by rw [e2]; exact hs.n, hs.df, fun t => by
    rw [drop_get]
    split
    · exact .any
    · exact hs.tm t, by rw [e1]; exact hs.hp⟩
  have := h g a w (by rw [e1]; exact hk) hs2
  rw [e1] at this
  exact this
theorem flZ_spec {n : Nat} : ∀ {l : List (Nat × TypeId)}, flZ P n l = true → ∀ d t, (d, t) ∈ l → d < n ∧ ∃ cs, zv P t = some cs
  | [], _, d, t, hm => by cases hm
  | (d0, t0) :: r, h, d, t, hm => by
    simp only [flZ, Bool.and_eq_true] at h
    rcases List.mem_cons.1 hm with e | hm
    · simp only [Prod.mk.injEq] at e
      obtain ⟨rfl, rfl⟩ := e
      refine ⟨Nat.le_of_ble_eq_true h.1.1, ?_⟩
      have h9 := h.1.2
      split at h9
      · rename_i cs hz
        exact ⟨cs, hz⟩
      · cases h9
    · exact flZ_spec h.2 d t hm
theorem flIn_spec {l : List (Sop × Kd)} {o : Oper} {t : TypeId} {d : Nat} (h : flIn l o = true) (h1 : o.op = .alloc t) (h2 : o.guard = none) (h3 : o.dst = some d) : (d, t) ∈ flD l := by
  unfold flIn at h
  rw [h1, h2, h3] at h
  simp only [List.any_eq_true, Bool.and_eq_true] at h
  obtain ⟨⟨d', t'⟩, h4, h5, h6⟩ := h
  have e1 := Nat.eq_of_beq_eq_true h5
  have e2 := Nat.eq_of_beq_eq_true h6
  simp only at e1 e2
  rw [← e1, ← e2]; exact h4
theorem W_draw {K K' : List Nat} (hm : P.follows .mixedOrders = true) {id : Nat} {ops : Array Oper} {l : List (Sop × Kd)} (hc : copD ops = some l) {s : St} (hz : flZ P s.n (flD l) = true) (hk1 : ∀ n ∈ K, n ∈ K') (hk2 : KIn K' s.hp) {Q : Exit → St → Prop} (h : WDs P K' false l (s.drop (flD l)) (Q .normal)) : W P K (.region id ops true) s Q := by
  obtain ⟨h1, ⟨r, h2, h3⟩, h4⟩ := copD_spec hc
  refine W_drop (flD l) (W_more hk1 (by rw [(drop_hp s (flD l)).1]; exact hk2) (W_any hm h1 (fun j o t ho hfl ht => ?_) h2 (fun j o d ho hfl hd _ => ?_) (WDs_WDo h3 h)))
  · obtain ⟨_, g1, d, g2⟩ := hfl
    exact (flZ_spec hz d t (flIn_spec (h4 j o ho) ht g1 g2)).2
  · obtain ⟨⟨t, g0⟩, g1, _⟩ := hfl
    have hin := flIn_spec (h4 j o ho) g0 g1 hd
    refine ⟨?_, by rw [(drop_hp s (flD l)).2]; exact (flZ_spec hz d t hin).1⟩
    rw [drop_get, if_pos (List.any_eq_true.2 ⟨(d, t), hin, by simp⟩)]
end Go.Wl

/- Values and memory told without addresses: brief code. -/
set_option linter.unusedVariables false
set_option linter.unusedSimpArgs false
namespace Go.Wl
variable {P : Program}

/-- Code, briefly. -/
inductive Cc where
  | skip
  | region (ops : List Sop)
  | draw (fl : List (Nat × TypeId)) (ops : List (Sop × Kd))
  | seq (a b : Cc)
  | cond (c : Operand) (x y : Cc)
  | block (id : Nat) (b : Cc)
  | loop (b : Cc)
  | exit (id : Nat)
  | ret
  | bad
def compC : Code → Cc
  | .skip => .skip
  | .region _ ops draw => bif draw then (match copD ops with
      | some l => .draw (flD l) l
      | none => .bad)
    else (match copS ops ops.toList with
      | some l => .region l
      | none => .bad)
  | .seq a b => .seq (compC a) (compC b)
  | .cond c x y => .cond c (compC x) (compC y)
  | .block id b => .block id (compC b)
  | .loop b => .loop (compC b)
  | .exit id => .exit id
  | .ret => .ret
  | _ => .bad
/-- What brief code does. -/
def WC (P : Program) (K : List Nat) (cc : Cc) (s : St) (Q : Exit → St → Prop) : Prop := ∀ c, compC c = cc → W P K c s Q
section
variable {K : List Nat} {s : St} {Q : Exit → St → Prop}
theorem comp_region {a b : Nat} {ops : Array Oper} {draw : Bool} : (∃ l, compC (.region a ops draw) = .region l ∧ draw = false ∧ copS ops ops.toList = some l) ∨ (∃ l, compC (.region a ops draw) = .draw (flD l) l ∧ draw = true ∧ copD ops = some l) ∨ compC (.region a ops draw) = .bad := by
  simp only [compC]
  cases draw with
  | false =>
    cases copS ops ops.toList with
    | none => exact .inr (.inr rfl)
    | some l => exact .inl ⟨l, rfl, rfl, rfl⟩
  | true =>
    cases copD ops with
    | none => exact .inr (.inr rfl)
    | some l => exact .inr (.inl ⟨l, rfl, rfl, rfl⟩)
theorem WC_skip (h : Q .normal s) : WC P K .skip s Q := fun c hc => by
  cases c with
  | skip => exact W_skip h
  | region a ops draw => rcases comp_region (a := a) (b := 0) (ops := ops) (draw := draw) with ⟨l, e, _⟩ | ⟨l, e, _⟩ | e <;> rw [e] at hc <;> cases hc
  | _ => simp [compC] at hc
theorem WC_exit {id : Nat} (h : Q (.exit id) s) : WC P K (.exit id) s Q := fun c hc => by
  cases c with
  | exit id => simp only [compC, Cc.exit.injEq] at hc; subst hc; exact W_exit h
  | region a ops draw => rcases comp_region (a := a) (b := 0) (ops := ops) (draw := draw) with ⟨l, e, _⟩ | ⟨l, e, _⟩ | e <;> rw [e] at hc <;> cases hc
  | _ => simp [compC] at hc
theorem WC_ret (h : Q .ret s) : WC P K .ret s Q := fun c hc => by
  cases c with
  | ret => exact W_ret h
  | region a ops draw => rcases comp_region (a := a) (b := 0) (ops := ops) (draw := draw) with ⟨l, e, _⟩ | ⟨l, e, _⟩ | e <;> rw [e] at hc <;> cases hc
  | _ => simp [compC] at hc
theorem WC_seq {a b : Cc} (h : WC P K a s (thenQ (fun s' => WC P K b s' Q) Q)) : WC P K (.seq a b) s Q := fun c hc => by
  cases c with
  | seq x y =>
    simp only [compC, Cc.seq.injEq] at hc
    obtain ⟨rfl, rfl⟩ := hc
    refine W_seq (W_mono (h x rfl) fun e s' hq => ?_)
    cases e with
    | normal => exact hq y rfl
    | _ => exact hq
  | region a ops draw => rcases comp_region (a := a) (b := 0) (ops := ops) (draw := draw) with ⟨l, e, _⟩ | ⟨l, e, _⟩ | e <;> rw [e] at hc <;> cases hc
  | _ => simp [compC] at hc
theorem WC_cond {o : Operand} {x y : Cc} (h : boolOf (s.ev o) fun t => (t = true → WC P K x s Q) ∧ (t = false → WC P K y s Q)) : WC P K (.cond o x y) s Q := fun c hc => by
  cases c with
  | cond c' x' y' =>
    simp only [compC, Cc.cond.injEq] at hc
    obtain ⟨rfl, rfl, rfl⟩ := hc
    unfold boolOf at h
    split at h
    · rename_i b hb
      exact W_cond hb (fun e => h.1 e x' rfl) (fun e => h.2 e y' rfl)
    · exact h.elim
  | region a ops draw => rcases comp_region (a := a) (b := 0) (ops := ops) (draw := draw) with ⟨l, e, _⟩ | ⟨l, e, _⟩ | e <;> rw [e] at hc <;> cases hc
  | _ => simp [compC] at hc
theorem WC_block {id : Nat} {b : Cc} (h : WC P K b s (blockQ id Q)) : WC P K (.block id b) s Q := fun c hc => by
  cases c with
  | block id' b' =>
    simp only [compC, Cc.block.injEq] at hc
    obtain ⟨rfl, rfl⟩ := hc
    exact W_block (h b' rfl)
  | region a ops draw => rcases comp_region (a := a) (b := 0) (ops := ops) (draw := draw) with ⟨l, e, _⟩ | ⟨l, e, _⟩ | e <;> rw [e] at hc <;> cases hc
  | _ => simp [compC] at hc
theorem WC_loop {b : Cc} (I : Nat → St → Prop) (n : Nat) (h0 : I n s) (step : ∀ n s, I n s → WC P K b s (thenQ (fun s' => ∃ m, m < n ∧ I m s') Q)) : WC P K (.loop b) s Q := fun c hc => by
  cases c with
  | loop b' =>
    simp only [compC, Cc.loop.injEq] at hc
    exact W_loop I n h0 fun n s hI => step n s hI b' hc
  | region a ops draw => rcases comp_region (a := a) (b := 0) (ops := ops) (draw := draw) with ⟨l, e, _⟩ | ⟨l, e, _⟩ | e <;> rw [e] at hc <;> cases hc
  | _ => simp [compC] at hc
theorem WC_region {l : List Sop} (h : WRs P K l s (Q .normal)) : WC P K (.region l) s Q := fun c hc => by
  cases c with
  | region a ops draw =>
    rcases comp_region (a := a) (b := 0) (ops := ops) (draw := draw) with ⟨l', e, e1, e2⟩ | ⟨l', e, _⟩ | e <;> rw [e] at hc
    · simp only [Cc.region.injEq] at hc; subst hc; subst e1
      exact W_region (WRs_WR e2 h)
    · cases hc
    · cases hc
  | _ => simp [compC] at hc
theorem WC_draw {fl : List (Nat × TypeId)} {l : List (Sop × Kd)} {K' : List Nat} {s' : St} (hm : P.follows .mixedOrders = true) (hz : ∀ q, flZ P s.n fl = q → q = true) (hq : ∀ q, objNames s.hp = q → q = K') (h1 : K.all (memb K' ·) = true) (hd : ∀ q, s.drop fl = q → q = s') (h : WDs P K' false l s' (Q .normal)) : WC P K (.draw fl l) s Q := fun c hc => by
  cases c with
  | region a ops draw =>
    rcases comp_region (a := a) (b := 0) (ops := ops) (draw := draw) with ⟨l', e, _⟩ | ⟨l', e, e1, e2⟩ | e <;> rw [e] at hc
    · cases hc
    · simp only [Cc.draw.injEq] at hc
      obtain ⟨hc1, hc2⟩ := hc
      subst hc2; subst hc1; subst e1
      exact W_draw hm e2 (hz _ rfl) (fun n hn => (memb_iff _ _).1 (List.all_eq_true.1 h1 n hn)) (fun n hn => by
        rw [← hq _ rfl] at hn
        simp only [objNames, List.mem_filter] at hn
        exact isObj_spec hn.2) (by rw [hd _ rfl]; exact h)
    · cases hc
  | _ => simp [compC] at hc
theorem WC_keep {cc : Cc} (ts ns : List Nat) (hK : K.all (memb ns ·) = true) (h : WC P K cc (s.keep ts ns) Q) : WC P K cc s Q := fun c hc => W_keep ts ns hK (h c hc)
theorem WC_mono {cc : Cc} {Q' : Exit → St → Prop} (h : WC P K cc s Q) (hq : ∀ e s', Q e s' → Q' e s') : WC P K cc s Q' := fun c hc => W_mono (h c hc) hq
end
def bodyC (fn : Func) : Cc := match fn.body with
  | some c => compC c
  | none => .bad
theorem Con.ofWC {f : FuncId} {fn : Func} {cc : Cc} {args : List AV} {hp : Hp} {R : AV → Hp → Prop} (hf : P.funcs[f]? = some fn) (hb : bodyC fn = cc) (hne : cc ≠ .bad) (hcb : cbl P f = true) (hlen : args.length ≤ fn.ntmps) (ns : List Nat)
    (hns : (objNames hp).all (memb ns ·) = true) (h : WC P (objNames hp) cc (initSt fn.ntmps args hp) (retQ P fn.results.toList ns R)) : Con P f args hp R := by
  unfold bodyC at hb
  split at hb
  · rename_i c hc
    exact Con.ofW hf hc hcb hlen ns hns (h c hb)
  · exact absurd hb.symm hne
/-- Steps of a region. -/
theorem stepS_of {K : List Nat} {d : Option Nat} {op : Op} {s s' : St} {k : St → Prop} (h : aopS P d op s = some s') (hk : k s') : stepS P K d op s k := by
  unfold stepS
  split
  · exact absurd h (by simp [aopS, aop])
  · rw [h]; exact hk
theorem WRs_nil {K : List Nat} {s : St} {k : St → Prop} (h : k s) : WRs P K [] s k := h
theorem WRs_n {K : List Nat} {d : Option Nat} {op : Op} {r : List Sop} {s s' : St} {k : St → Prop} (h : aopS P d op s = some s') (hk : WRs P K r s' k) : WRs P K (⟨d, op, none⟩ :: r) s k := stepS_of h hk
theorem WRs_c {K : List Nat} {d : Option Nat} {op : Op} {r : List Sop} {s : St} {k : St → Prop} (h : ∀ k' : St → Prop, (∀ s', WRs P K r s' k → k' s') → stepS P K d op s k') : WRs P K (⟨d, op, none⟩ :: r) s k := h _ fun _ h => h
theorem stepS_o {K : List Nat} {d : Option Nat} {op : Op} {s : St} {k : St → Prop} (h : opt (aopS P d op s) k) : stepS P K d op s k := by
  cases ha : aopS P d op s with
  | none => rw [ha] at h; exact h.elim
  | some s' => rw [ha] at h; exact stepS_of ha h
theorem gdv_b {b w : Bool} : gdv (.d (.bool b)) w = some (b == w) := rfl
theorem gdv_u {w : Bool} : gdv und w = some false := rfl
theorem WRs_gt {K : List Nat} {d : Option Nat} {op : Op} {r : List Sop} {s : St} {k : St → Prop} {t : Nat} {w : Bool} (hb : s.get t = .d (.bool w)) (h : WRs P K (⟨d, op, none⟩ :: r) s k) : WRs P K (⟨d, op, some (t, w)⟩ :: r) s k := by
  unfold WRs gdOf
  rw [hb, gdv_b]
  exact ⟨fun _ => h, fun e => absurd e (by simp)⟩
theorem WRs_gv {K : List Nat} {d : Option Nat} {op : Op} {r : List Sop} {s s' : St} {k : St → Prop} {t : Nat} {w b : Bool} (hb : s.get t = .d (.bool b)) (hs : s.setv d und = some s') (h1 : b = w → WRs P K (⟨d, op, none⟩ :: r) s k) (h2 : b = !w → WRs P K r s' k) : WRs P K (⟨d, op, some (t, w)⟩ :: r) s k := by
  unfold WRs gdOf
  rw [hb, gdv_b]
  refine ⟨fun e => h1 (by simpa using e), fun e => ?_⟩
  rw [hs]; exact h2 (by cases b <;> cases w <;> simp_all)
theorem WRs_gf {K : List Nat} {d : Option Nat} {op : Op} {r : List Sop} {s s' : St} {k : St → Prop} {t : Nat} {w : Bool} (hb : s.get t = .d (.bool (!w))) (hs : s.setv d und = some s') (h : WRs P K r s' k) : WRs P K (⟨d, op, some (t, w)⟩ :: r) s k :=
  WRs_gv hb hs (fun e => absurd e (by cases w <;> simp)) fun _ => h
theorem WRs_gu {K : List Nat} {d : Option Nat} {op : Op} {r : List Sop} {s s' : St} {k : St → Prop} {t : Nat} {w : Bool} (hb : s.get t = und) (hs : s.setv d und = some s') (h : WRs P K r s' k) : WRs P K (⟨d, op, some (t, w)⟩ :: r) s k := by
  unfold WRs gdOf
  rw [hb, gdv_u]
  refine ⟨fun e => (by cases e), fun e => ?_⟩
  rw [hs]; exact h
/-- A comparison's result under a name. -/
theorem WRs_bool {K : List Nat} {d : Nat} {op : BinOp} {t y' : TypeId} {x y : Operand} {r : List Sop} {s : St} {k : St → Prop} {E : Bool} (h : abin P op t x y (s.ev x) (s.ev y) = some (.d (.bool E))) (hd : ltb d s.n = true)
    (hk : ∀ b, E = b → WRs P K r { s with tm := lset s.tm d (.d (.bool b)) } k) : WRs P K (⟨some d, .binOp op t x y y', none⟩ :: r) s k := by
  refine WRs_n (s' := { s with tm := lset s.tm d (.d (.bool E)) }) ?_ (hk E rfl)
  simp only [aopS, h, ob, St.setv, hd, cond]
theorem WC_cv {K : List Nat} {s : St} {Q : Exit → St → Prop} {o : Operand} {x y : Cc} {b : Bool} (hb : s.ev o = .d (.bool b)) (h1 : b = true → WC P K x s Q) (h2 : b = false → WC P K y s Q) : WC P K (.cond o x y) s Q := by
  refine WC_cond ?_
  rw [hb]
  exact ⟨h1, h2⟩
theorem set_same {s : St} {t : Nat} {x : AV} (h : s.get t = x) : ∀ i, ({ s with tm := lset s.tm t x } : St).get i = s.get i := fun i => by
  unfold St.get at *
  simp only [lk_lset]
  by_cases e : t = i
  · subst e
    rw [if_pos rfl]; exact h.symm
  · rw [if_neg e]
theorem thenQ_n {c : St → Prop} {Q : Exit → St → Prop} {s : St} (h : c s) : thenQ c Q .normal s := h
theorem thenQ_r {c : St → Prop} {Q : Exit → St → Prop} {s : St} (h : Q .ret s) : thenQ c Q .ret s := h
theorem thenQ_e {c : St → Prop} {Q : Exit → St → Prop} {s : St} {id : Nat} (h : Q (.exit id) s) : thenQ c Q (.exit id) s := h
theorem blockQ_n {Q : Exit → St → Prop} {s : St} {id : Nat} (h : Q .normal s) : blockQ id Q .normal s := h
theorem blockQ_r {Q : Exit → St → Prop} {s : St} {id : Nat} (h : Q .ret s) : blockQ id Q .ret s := h
theorem blockQ_e {Q : Exit → St → Prop} {s : St} {id : Nat} (h : Q .normal s) : blockQ id Q (.exit id) s := by simp only [blockQ, if_true]; exact h
theorem blockQ_o {Q : Exit → St → Prop} {s : St} {id j : Nat} (hj : (j == id) = false) (h : Q (.exit j) s) : blockQ id Q (.exit j) s := by
  simp only [blockQ]
  rw [if_neg (by simpa using hj)]; exact h
/-- The same steps, for a walk that reckons. -/
theorem RUN_n {K : List Nat} {d : Option Nat} {op : Op} {r : List Sop} {s s' : St} {k : St → Prop} (h : ∀ q, aopS P d op s = q → q = some s') (hk : WRs P K r s' k) : WRs P K (⟨d, op, none⟩ :: r) s k := WRs_n (h _ rfl) hk
theorem RUN_bool {K : List Nat} {d : Nat} {op : BinOp} {t y' : TypeId} {x y : Operand} {r : List Sop} {s : St} {s'' : Bool → St} {k : St → Prop} {E : Bool} (h : ∀ q, abin P op t x y (s.ev x) (s.ev y) = q → q = some (.d (.bool E)))
    (hs : ∀ b q, s.setv (some d) (.d (.bool b)) = q → q = some (s'' b)) (hk : ∀ b, E = b → WRs P K r (s'' b) k) : WRs P K (⟨some d, .binOp op t x y y', none⟩ :: r) s k := by
  refine WRs_n ?_ (hk E rfl)
  simp only [aopS, h _ rfl, ob, hs E _ rfl]
theorem RUN_gt {K : List Nat} {d : Option Nat} {op : Op} {r : List Sop} {s : St} {k : St → Prop} {t : Nat} {w : Bool} (hb : ∀ q, s.get t = q → q = .d (.bool w)) (h : WRs P K (⟨d, op, none⟩ :: r) s k) : WRs P K (⟨d, op, some (t, w)⟩ :: r) s k := WRs_gt (hb _ rfl) h
theorem RUN_gf {K : List Nat} {d : Option Nat} {op : Op} {r : List Sop} {s s' : St} {k : St → Prop} {t : Nat} {w : Bool} (hb : ∀ q, s.get t = q → q = .d (.bool (!w))) (hs : ∀ q, s.setv d und = q → q = some s') (h : WRs P K r s' k) : WRs P K (⟨d, op, some (t, w)⟩ :: r) s k := WRs_gf (hb _ rfl) (hs _ rfl) h
theorem RUN_gu {K : List Nat} {d : Option Nat} {op : Op} {r : List Sop} {s s' : St} {k : St → Prop} {t : Nat} {w : Bool} (hb : ∀ q, s.get t = q → q = und) (hs : ∀ q, s.setv d und = q → q = some s') (h : WRs P K r s' k) : WRs P K (⟨d, op, some (t, w)⟩ :: r) s k := WRs_gu (hb _ rfl) (hs _ rfl) h
theorem RUN_gv {K : List Nat} {d : Option Nat} {op : Op} {r : List Sop} {s s' : St} {k : St → Prop} {t : Nat} {w b : Bool} (hb : ∀ q, s.get t = q → q = .d (.bool b)) (hs : ∀ q, s.setv d und = q → q = some s') (h1 : b = w → WRs P K (⟨d, op, none⟩ :: r) s k) (h2 : b = !w → WRs P K r s' k) :
    WRs P K (⟨d, op, some (t, w)⟩ :: r) s k := WRs_gv (hb _ rfl) (hs _ rfl) h1 h2
theorem RUN_cv {K : List Nat} {s : St} {Q : Exit → St → Prop} {o : Operand} {x y : Cc} {b : Bool} (hb : ∀ q, s.ev o = q → q = .d (.bool b)) (h1 : b = true → WC P K x s Q) (h2 : b = false → WC P K y s Q) : WC P K (.cond o x y) s Q := WC_cv (hb _ rfl) h1 h2
theorem RUN_call {K : List Nat} {d : Option Nat} {f : Operand} {args : Array Operand} {ats : Array TypeId} {r : List Sop} {s : St} {k : St → Prop} {id : FuncId} {first caps : List D} {args' : List AV} {hp0 : Hp} {R : AV → Hp → Prop} (m : List Bool) (L : List Nat)
    (hf : ∀ q, s.ev f = q → q = .d (.func (.func id) first caps)) (ha : ∀ q, asArgs m (first.map .d ++ args.toList.map s.ev ++ caps.map .d) = q → q = some args') (hh : ∀ q, hpSel L s.hp = q → q = hp0) (hC : Con P id args' hp0 R)
    (hk : ∀ r' hp', R r' hp' → afterOk s L d r' hp' = true ∧ ∀ q, s.after L d r' hp' = q → WRs P K r q k) : WRs P K (⟨d, .call { callee := .value f, args, argTypes := ats }, none⟩ :: r) s k := by
  show callK P K d s (s.ev f) (args.toList.map s.ev) _
  rw [hf _ rfl]
  refine Call_con m L (ha _ rfl) (by rw [hh _ rfl]; exact hC) fun r' hp' hR => ?_
  obtain ⟨h1, h2⟩ := hk r' hp' hR
  exact ⟨h1, h2 _ rfl⟩
theorem RUN_callf {K : List Nat} {d : Option Nat} {f : Operand} {args : Array Operand} {ats : Array TypeId} {r : List Sop} {s : St} {k : St → Prop} {id : FuncId} {first caps : List AV} {args' : List AV} {hp0 : Hp} {R : AV → Hp → Prop} (m : List Bool) (L : List Nat)
    (hf : ∀ q, s.ev f = q → q = .func (.func id) first caps) (ha : ∀ q, asArgs m (first ++ args.toList.map s.ev ++ caps) = q → q = some args') (hh : ∀ q, hpSel L s.hp = q → q = hp0) (hC : Con P id args' hp0 R)
    (hk : ∀ r' hp', R r' hp' → afterOk s L d r' hp' = true ∧ ∀ q, s.after L d r' hp' = q → WRs P K r q k) : WRs P K (⟨d, .call { callee := .value f, args, argTypes := ats }, none⟩ :: r) s k := by
  show callK P K d s (s.ev f) (args.toList.map s.ev) _
  rw [hf _ rfl]
  refine Call_con m L (ha _ rfl) (by rw [hh _ rfl]; exact hC) fun r' hp' hR => ?_
  obtain ⟨h1, h2⟩ := hk r' hp' hR
  exact ⟨h1, h2 _ rfl⟩
theorem RUN_ret {rs : List ResultVar} {ns : List Nat} {R : AV → Hp → Prop} {s : St} {r : AV} {hp' : Hp} (h : ∀ q, aret P s rs = q → q = some r) (hh : ∀ q, keepL s.hp ns = q → q = hp') (hR : R r hp') : retQ P rs ns R .ret s := ⟨r, r, h _ rfl, .inl rfl, by rw [hh _ rfl]; exact hR⟩
theorem RUN_end {rs : List ResultVar} {ns : List Nat} {R : AV → Hp → Prop} {s : St} {r : AV} {hp' : Hp} (h : ∀ q, aret P s rs = q → q = some r) (hh : ∀ q, keepL s.hp ns = q → q = hp') (hR : R r hp') : retQ P rs ns R .normal s := ⟨r, r, h _ rfl, .inl rfl, by rw [hh _ rfl]; exact hR⟩
theorem RUN_retD {rs : List ResultVar} {ns : List Nat} {R : AV → Hp → Prop} {s : St} {r : AV} {x : D} {hp' : Hp} (h : ∀ q, aret P s rs = q → q = some r) (hx : ∀ q, r.toD = q → q = some x) (hh : ∀ q, keepL s.hp ns = q → q = hp') (hR : R (.d x) hp') : retQ P rs ns R .ret s := ⟨r, .d x, h _ rfl, .inr ⟨x, hx _ rfl, rfl⟩, by rw [hh _ rfl]; exact hR⟩
theorem RUN_endD {rs : List ResultVar} {ns : List Nat} {R : AV → Hp → Prop} {s : St} {r : AV} {x : D} {hp' : Hp} (h : ∀ q, aret P s rs = q → q = some r) (hx : ∀ q, r.toD = q → q = some x) (hh : ∀ q, keepL s.hp ns = q → q = hp') (hR : R (.d x) hp') : retQ P rs ns R .normal s := ⟨r, .d x, h _ rfl, .inr ⟨x, hx _ rfl, rfl⟩, by rw [hh _ rfl]; exact hR⟩
/-- A slot's value is told otherwise. -/
def Le (x y : AV) : Prop := ∀ g w v, Rel g w v x → Rel g w v y
theorem Le.refl (x : AV) : Le x x := fun _ _ _ h => h
theorem Le.toD {x : AV} {d : D} (h : x.toD = some d) : Le x (.d d) := fun _ _ _ hr => .d (toD_rep hr h)
theorem Le.any (x : AV) : Le x .any := fun _ _ _ _ => .any
theorem Le.lit {xs : List D} : Le (.lit xs) (.d (.list xs)) := Le.toD rfl
theorem W_le {K : List Nat} {c : Code} {s s' : St} {Q : Exit → St → Prop} (hn : s'.n = s.n) (ht : ∀ i, Le (s.get i) (s'.get i)) (hh : ∀ n ob', lk s'.hp n = some ob' → ∃ ob, lk s.hp n = some ob ∧ (ob' = ob ∨ ∃ vs vs', ob = .cells vs ∧ ob' = .cells vs' ∧ vs'.length ≤ vs.length ∧ ∀ (j : Nat) (y : AV), vs'[j]? = some y → ∃ x, vs[j]? = some x ∧ Le x y))
    (hK : K.all (fun n => isObj (lk s'.hp n)) = true) (h : W P K c s' Q) : W P K c s Q := fun g a w hk hs => by
  have hoo : ∀ n ob', lk s'.hp n = some ob' → ∃ ob, lk s.hp n = some ob ∧ ∀ b o, ownO g n ob' b o ↔ ownO g n ob b o := fun n ob' hn' => by
    obtain ⟨ob, h1, h2⟩ := hh n ob' hn'
    rcases h2 with rfl | ⟨vs, vs', rfl, rfl, _⟩
    · exact ⟨_, h1, fun _ _ => Iff.rfl⟩
    · exact ⟨_, h1, fun _ _ => Iff.rfl⟩
  have hO : ∀ b o, Own g s'.hp b o → Own g s.hp b o := fun b o ⟨n, ob', h1, h2⟩ => by
    obtain ⟨ob, q1, q2⟩ := hoo n ob' h1
    exact ⟨n, ob, q1, (q2 b o).1 h2⟩
  have hsim : Sim g s' a w := by
    refine ⟨hs.n.trans hn.symm, hs.df, fun i => ht i g w _ (hs.tm i), ⟨fun n ob' hn' => ?_, fun b o h1 h2 => hs.hp.sep b o h1 (hO b o h2), fun n m o1 o2 h1 h2 hne b o q1 q2 => ?_, hs.hp.ex⟩⟩
    · obtain ⟨ob, h1, h2⟩ := hh n ob' hn'
      have h3 := hs.hp.ob n ob h1
      rcases h2 with rfl | ⟨vs, vs', rfl, rfl, hl, hv⟩
      · exact h3
      · obtain ⟨c, e, fr, r1, r2, r3, r4⟩ := h3
        exact ⟨c, e, fr, r1, by omega, r3, fun j y hj => by obtain ⟨x, q1, q2⟩ := hv j y hj; exact q2 g w _ (r4 j x q1)⟩
    · obtain ⟨p1, e1, f1⟩ := hoo n o1 h1
      obtain ⟨p2, e2, f2⟩ := hoo m o2 h2
      exact hs.hp.dis n m p1 p2 e1 e2 hne b o ((f1 b o).1 q1) ((f2 b o).1 q2)
  have hki : KIn K s'.hp := fun n hn => isObj_spec (List.all_eq_true.1 hK n hn)
  have htt : To K g s.hp w g s'.hp w := ⟨Ev.world rfl rfl rfl rfl (fun _ _ => Iff.rfl) hO, fun _ _ => ⟨rfl, rfl⟩, hki⟩
  exact wp_mono (h g a w hki hsim) fun e a' w' ⟨s2, g', q1, q2, q3⟩ => ⟨s2, g', q1, htt.trans q2, q3⟩
theorem nilS_abin {bo : BinOp} {t : TypeId} {ox y : Operand} {vx vy : AV} {p : List D × Bool} (h : nilS P bo t y vx = some p) : abin P bo t ox y vx vy = none := by
  unfold nilS at h
  split at h
  · rename_i xs
    cases hc : (isConstNil (tk P t) y && isSl (tk P t))
    · rw [hc] at h; cases h
    · simp only [Bool.and_eq_true] at hc
      have hk : tk P t = .slice := by cases hq : tk P t <;> rw [hq] at hc <;> first | rfl | (have := hc.2; cases this)
      unfold abin
      split
      all_goals first | (rw [hc.1, hk]; rfl) | (rename_i e; cases e) | (rename_i e _; cases e) | (exfalso; simp_all; done)
  · cases h
theorem WRs_nil2 {K : List Nat} {d : Nat} {bo : BinOp} {t yt : TypeId} {x y : Operand} {r : List Sop} {s : St} {s' : Bool → St} {k : St → Prop} {xs : List D} {pos : Bool} (hn : ∀ q, nilS P bo t y (s.ev x) = q → q = some (xs, pos))
    (hs : ∀ b q, s.setv (some d) (.d (.bool b)) = q → q = some (s' b)) (hk : ∀ b, (b = pos → xs = []) → WRs P K r (s' b) k) : WRs P K (⟨some d, .binOp bo t x y yt, none⟩ :: r) s k := by
  have hn := hn _ rfl
  show stepS P K (some d) (.binOp bo t x y yt) s fun s' => WRs P K r s' k
  unfold stepS
  simp only [aopS, nilS_abin hn, ob, nilK, hn]
  intro b hb
  rw [hs _ _ rfl]
  exact hk _ fun e => hb (by cases b <;> cases pos <;> simp_all)
/-- A loop, told by what is kept at its head. -/
theorem WC_loopI {K : List Nat} {s : St} {Q : Exit → St → Prop} {b : Cc} {α : Type} (T N : List Nat) (I : α → Prop) (S : α → St) (m : α → Nat) (hK : K.all (memb N ·) = true) (x0 : α) (h0 : ∀ q, s.keep T N = q → q = S x0) (hI : I x0)
    (step : ∀ x, I x → WC P K b (S x) (thenQ (fun s' => ∃ y, I y ∧ m y < m x ∧ ∀ q, s'.keep T N = q → q = S y) Q)) : WC P K (.loop b) s Q :=
  WC_loop (fun n s => ∃ x, I x ∧ m x = n ∧ s.keep T N = S x) (m x0) ⟨x0, hI, rfl, h0 _ rfl⟩ fun n s ⟨x, h1, h2, h3⟩ => by
    refine WC_keep T N hK ?_
    rw [h3]
    refine WC_mono (step x h1) fun e s' h => ?_
    cases e with
    | normal =>
      obtain ⟨y, q1, q2, q3⟩ := h
      exact ⟨m y, by omega, y, q1, rfl, q3 _ rfl⟩
    | _ => exact h
/-- Steps of a region in any order. -/
theorem RUND_nil {K : List Nat} {m : Bool} {s : St} {k : St → Prop} (h : k s) : WDs P K m [] s k := h
theorem RUND_n {K : List Nat} {m : Bool} {d : Option Nat} {op : Op} {r : List (Sop × Kd)} {s s' : St} {k : St → Prop} (h : ∀ q, aopD P d op s s = q → q = some s') (hk : WDs P K m r s' k) : WDs P K m ((⟨d, op, none⟩, .pu) :: r) s k := by
  show opt (aopD P d op s s) _
  rw [h _ rfl]; exact hk
theorem RUND_l {K ls : List Nat} {m : Bool} {d : Option Nat} {op : Op} {r : List (Sop × Kd)} {s s' : St} {k : St → Prop} (hl : ∀ q, laOK K s ls = q → q = true) (h : ∀ q, aopD P d op { s with hp := [] } s = q → q = some s') (hk : WDs P K m r s' k) : WDs P K m ((⟨d, op, none⟩, .la ls) :: r) s k := by
  refine ⟨hl _ rfl, false, ?_⟩
  show opt (aopD P d op { s with hp := [] } s) _
  rw [h _ rfl, Bool.or_false]; exact hk
theorem RUND_lm {K ls : List Nat} {m : Bool} {d : Option Nat} {op : Op} {r : List (Sop × Kd)} {s s' : St} {k : St → Prop} (hl : ∀ q, laOK K s ls = q → q = true) (h : ∀ q, aopD P d op s s = q → q = some s') (hk : WDs P K true r s' k) : WDs P K m ((⟨d, op, none⟩, .la ls) :: r) s k := by
  refine ⟨hl _ rfl, true, ?_⟩
  show opt (aopD P d op s s) _
  rw [h _ rfl, Bool.or_true]; exact hk
theorem RUND_bool {K : List Nat} {m : Bool} {d : Nat} {op : BinOp} {t y' : TypeId} {x y : Operand} {r : List (Sop × Kd)} {s : St} {s'' : Bool → St} {k : St → Prop} {E : Bool} (h : ∀ q, abin P op t x y (s.ev x) (s.ev y) = q → q = some (.d (.bool E)))
    (hs : ∀ b q, s.setv (some d) (.d (.bool b)) = q → q = some (s'' b)) (hk : ∀ b, E = b → WDs P K m r (s'' b) k) : WDs P K m ((⟨some d, .binOp op t x y y', none⟩, .pu) :: r) s k := by
  show opt (aopD P (some d) (.binOp op t x y y') s s) _
  simp only [aopD, aval, h _ rfl, ob, hs E _ rfl]
  exact hk E rfl
theorem RUND_lbool {K ls : List Nat} {m : Bool} {d : Nat} {op : BinOp} {t y' : TypeId} {x y : Operand} {r : List (Sop × Kd)} {s : St} {s'' : Bool → St} {k : St → Prop} {E : Bool} (hl : ∀ q, laOK K s ls = q → q = true) (h : ∀ q, abin P op t x y (s.ev x) (s.ev y) = q → q = some (.d (.bool E)))
    (hs : ∀ b q, s.setv (some d) (.d (.bool b)) = q → q = some (s'' b)) (hk : ∀ b, E = b → WDs P K m r (s'' b) k) : WDs P K m ((⟨some d, .binOp op t x y y', none⟩, .la ls) :: r) s k := by
  refine ⟨hl _ rfl, false, ?_⟩
  show opt (aopD P (some d) (.binOp op t x y y') { s with hp := [] } s) _
  have e1 : ∀ z, ({ s with hp := [] } : St).ev z = s.ev z := fun z => by cases z <;> rfl
  simp only [aopD, aval, e1, h _ rfl, ob, hs E _ rfl, Bool.or_false]
  exact hk E rfl
theorem RUND_gt {K : List Nat} {m : Bool} {kd : Kd} {d : Option Nat} {op : Op} {r : List (Sop × Kd)} {s : St} {k : St → Prop} {t : Nat} {w : Bool} (hb : ∀ q, s.get t = q → q = .d (.bool w)) (h : WDs P K m ((⟨d, op, none⟩, kd) :: r) s k) : WDs P K m ((⟨d, op, some (t, w)⟩, kd) :: r) s k := by
  have key : ∀ s0 k', pureS P ⟨d, op, none⟩ s0 s k' → pureS P ⟨d, op, some (t, w)⟩ s0 s k' := fun s0 k' h => by
    unfold pureS gdOf
    simp only [hb _ rfl, gdv_b]
    exact ⟨fun _ => h, fun e => absurd e (by simp)⟩
  cases kd with
  | ch D p => exact WRs_gt (hb _ rfl) h
  | pu => exact key _ _ h
  | la ls =>
    obtain ⟨h1, e, h2⟩ := h
    exact ⟨h1, e, key _ _ h2⟩
def skipOK (K : List Nat) (m : Bool) (s' s : St) : Kd → Prop
  | .ch D p => sameOn D s' s ∧ ((m && p) = true → s'.hp = s.hp)
  | .la ls => laOK K s ls = true
  | .pu => True
def nextM (m : Bool) : Kd → Bool
  | .ch _ p => m && p
  | .la _ => m
  | .pu => m
theorem RUND_gv {K : List Nat} {m : Bool} {kd : Kd} {d : Option Nat} {op : Op} {r : List (Sop × Kd)} {s s' : St} {k : St → Prop} {t : Nat} {w b : Bool} (hc : ∀ q, skipOK K m s' s kd = q → q) (hb : ∀ q, s.get t = q → q = .d (.bool b)) (hs : ∀ q, s.setv d und = q → q = some s') (h1 : b = w → WDs P K m ((⟨d, op, none⟩, kd) :: r) s k) (h2 : b = !w → WDs P K (nextM m kd) r s' k) :
    WDs P K m ((⟨d, op, some (t, w)⟩, kd) :: r) s k := by
  have hc := hc _ rfl
  have key : ∀ s0 k', (b = w → pureS P ⟨d, op, none⟩ s0 s k') → (b = (!w) → k' s') → pureS P ⟨d, op, some (t, w)⟩ s0 s k' := fun s0 k' h1 h2 => by
    unfold pureS gdOf
    simp only [hb _ rfl, gdv_b]
    refine ⟨fun e => h1 (by simpa using e), fun e => ?_⟩
    rw [hs _ rfl]; exact h2 (by cases b <;> cases w <;> simp_all)
  cases kd with
  | ch D p => exact WRs_gv (hb _ rfl) (hs _ rfl) h1 fun e => ⟨hc.1, hc.2, h2 e⟩
  | pu => exact key _ _ h1 h2
  | la ls =>
    by_cases e : b = w
    · obtain ⟨q1, e', q2⟩ := h1 e
      exact ⟨hc, e', key _ _ (fun _ => q2) fun e2 => absurd (e.symm.trans e2) (by cases w <;> simp)⟩
    · refine ⟨hc, false, key _ _ (fun e1 => absurd e1 e) fun e2 => ?_⟩
      rw [Bool.or_false]; exact h2 e2
theorem RUND_gf {K : List Nat} {m : Bool} {kd : Kd} {d : Option Nat} {op : Op} {r : List (Sop × Kd)} {s s' : St} {k : St → Prop} {t : Nat} {w : Bool} (hc : ∀ q, skipOK K m s' s kd = q → q) (hb : ∀ q, s.get t = q → q = .d (.bool (!w))) (hs : ∀ q, s.setv d und = q → q = some s') (h : WDs P K (nextM m kd) r s' k) : WDs P K m ((⟨d, op, some (t, w)⟩, kd) :: r) s k :=
  RUND_gv hc hb hs (fun e => absurd e (by cases w <;> simp)) fun _ => h
theorem RUND_gu {K : List Nat} {m : Bool} {kd : Kd} {d : Option Nat} {op : Op} {r : List (Sop × Kd)} {s s' : St} {k : St → Prop} {t : Nat} {w : Bool} (hc : ∀ q, skipOK K m s' s kd = q → q) (hb : ∀ q, s.get t = q → q = und) (hs : ∀ q, s.setv d und = q → q = some s') (h : WDs P K (nextM m kd) r s' k) : WDs P K m ((⟨d, op, some (t, w)⟩, kd) :: r) s k := by
  have hc := hc _ rfl
  have key : ∀ s0 k', k' s' → pureS P ⟨d, op, some (t, w)⟩ s0 s k' := fun s0 k' h => by
    unfold pureS gdOf
    simp only [hb _ rfl, gdv_u]
    refine ⟨fun e => (by cases e), fun e => ?_⟩
    rw [hs _ rfl]; exact h
  cases kd with
  | ch D p => exact WRs_gu (hb _ rfl) (hs _ rfl) ⟨hc.1, hc.2, h⟩
  | pu => exact key _ _ h
  | la ls => exact ⟨hc, false, key _ _ (by rw [Bool.or_false]; exact h)⟩
theorem RUND_ch {K D : List Nat} {m p : Bool} {d : Option Nat} {op : Op} {r : List (Sop × Kd)} {s s' : St} {k : St → Prop} (h : ∀ q, aopS P d op s = q → q = some s') (hD : ∀ q, sameOn D s' s = q → q) (hH : (m && p) = true → s'.hp = s.hp) (hk : WDs P K (m && p) r s' k) : WDs P K m ((⟨d, op, none⟩, .ch D p) :: r) s k := WRs_n (h _ rfl) ⟨hD _ rfl, hH, hk⟩
theorem RUND_call {K D : List Nat} {m p : Bool} {d : Option Nat} {op : Op} {r : List (Sop × Kd)} {s : St} {k : St → Prop} (h : WRs P K [⟨d, op, none⟩] s fun s' => sameOn D s' s ∧ ((m && p) = true → s'.hp = s.hp) ∧ WDs P K (m && p) r s' k) : WDs P K m ((⟨d, op, none⟩, .ch D p) :: r) s k := h
theorem WDs_m {K : List Nat} {m m' : Bool} {r : List (Sop × Kd)} {s : St} {k : St → Prop} (e : m = m') (h : WDs P K m' r s k) : WDs P K m r s k := e ▸ h
end Go.Wl

/- Values and memory told without addresses: numbers. -/
namespace Go.Wl
theorem w64 {n : Int} (h : -9223372036854775808 ≤ n) (h' : n < 9223372036854775808) : IntKind.i64.wrap n = n := by
  simp only [IntKind.wrap, IntKind.bits, IntKind.signed, Bool.true_and]
  split
  · rename_i h1; simp at h1; omega
  · rename_i h1; simp at h1; omega
theorem w64_add (i : Nat) (k : Nat) (h : i + k < 9223372036854775808) : IntKind.i64.wrap ((i : Int) + (k : Int)) = ((i + k : Nat) : Int) := by
  rw [w64 (by omega) (by omega)]; omega
theorem w64_one {i : Nat} (h : i + 1 < 9223372036854775808) : IntKind.i64.wrap ((i : Int) + 1) = ((i + 1 : Nat) : Int) := by
  rw [w64 (by omega) (by omega)]; omega
theorem w64_pred {i : Nat} (h : i < 9223372036854775808) (h0 : 0 < i) : IntKind.i64.wrap ((i : Int) - 1) = ((i - 1 : Nat) : Int) := by
  rw [w64 (by omega) (by omega)]; omega
theorem wu {k : IntKind} {n : Int} (hs : k.signed = false) (h : 0 ≤ n) (h' : n < 2 ^ k.bits) : k.wrap n = n := by
  simp only [IntKind.wrap, hs, Bool.false_and, Bool.false_eq_true, if_false]
  exact Int.emod_eq_of_lt h h'
theorem wu32 {n : Int} (h : 0 ≤ n) (h' : n < 4294967296) : IntKind.u32.wrap n = n := wu rfl h h'
theorem wu64 {n : Int} (h : 0 ≤ n) (h' : n < 18446744073709551616) : IntKind.u64.wrap n = n := wu rfl h h'
theorem wu8 {n : Int} (h : 0 ≤ n) (h' : n < 256) : IntKind.u8.wrap n = n := wu rfl h h'
theorem dec_lt {a b : Nat} : decide ((a : Int) < (b : Int)) = decide (a < b) := by simp
end Go.Wl

/- Values and memory told without addresses: two ways that meet. -/
set_option linter.unusedVariables false
set_option linter.unusedSimpArgs false
namespace Go.Wl
variable {P : Program}

def runP (P : Program) : List Sop → St → Option St
  | [], s => some s
  | ⟨d, op, none⟩ :: r, s => ob (aopD P d op s s) (runP P r)
  | _ :: _, _ => none
def dstsOf : List Sop → List Nat
  | [] => []
  | ⟨some d, _, _⟩ :: r => d :: dstsOf r
  | _ :: r => dstsOf r
def phiD (b : Bool) (x y : D) : D := match x, y with
  | .int k n, .int k' m => bif decide (k = k') then .int k (if b = true then n else m) else if b = true then .int k n else .int k' m
  | .bool p, .bool q => .bool (if b = true then p else q)
  | .str s, .str t => .str (if b = true then s else t)
  | .list s, .list t => .list (if b = true then s else t)
  | x, y => if b = true then x else y
theorem phiD_eq (b : Bool) (x y : D) : phiD b x y = bif b then x else y := by
  unfold phiD
  split
  · rename_i k n k' m
    cases h : decide (k = k')
    · cases b <;> rfl
    · have := of_decide_eq_true h
      subst this
      cases b <;> rfl
  all_goals cases b <;> rfl
def phiAV (b : Bool) (x y : AV) : AV := match x, y with
  | .d x, .d y => .d (phiD b x y)
  | _, _ => .any
def phiS (b : Bool) (s1 s2 : St) : List Nat → List (Nat × AV) → List (Nat × AV)
  | [], tm => tm
  | t :: r, tm => phiS b s1 s2 r (lset tm t (phiAV b (s1.get t) (s2.get t)))
theorem phiS_spec {b : Bool} {s1 s2 : St} : ∀ {W : List Nat} {tm : List (Nat × AV)} {i : Nat}, lk (phiS b s1 s2 W tm) i = lk tm i ∨ (i ∈ W ∧ lk (phiS b s1 s2 W tm) i = some (phiAV b (s1.get i) (s2.get i)))
  | [], tm, i => .inl rfl
  | t :: r, tm, i => by
    simp only [phiS]
    rcases phiS_spec (b := b) (s1 := s1) (s2 := s2) (W := r) (tm := lset tm t (phiAV b (s1.get t) (s2.get t))) (i := i) with h | ⟨h1, h2⟩
    · rw [h, lk_lset]
      by_cases e : t = i
      · subst e
        exact .inr ⟨List.mem_cons_self, if_pos rfl⟩
      · rw [if_neg e]; exact .inl rfl
    · exact .inr ⟨List.mem_cons_of_mem _ h1, h2⟩
theorem phiS_mem {b : Bool} {s1 s2 : St} : ∀ {W : List Nat} {tm : List (Nat × AV)} {i : Nat}, i ∈ W → lk (phiS b s1 s2 W tm) i = some (phiAV b (s1.get i) (s2.get i))
  | t :: r, tm, i, h => by
    simp only [phiS]
    by_cases hr : i ∈ r
    · exact phiS_mem hr
    · rcases List.mem_cons.1 h with e | h
      · subst e
        rcases phiS_spec (b := b) (s1 := s1) (s2 := s2) (W := r) (tm := lset tm i (phiAV b (s1.get i) (s2.get i))) (i := i) with h | ⟨h1, h2⟩
        · rw [h, lk_lset, if_pos rfl]
        · exact h2
      · exact absurd h hr

/-- A region that only reckons. -/
theorem runP_keep : ∀ {l : List Sop} {s s' : St}, runP P l s = some s' → s'.hp = s.hp ∧ s'.n = s.n ∧ ∀ i, i ∉ dstsOf l → s'.get i = s.get i
  | [], s, s', h => by simp only [runP, Option.some.injEq] at h; subst h; exact ⟨rfl, rfl, fun _ _ => rfl⟩
  | ⟨d, op, none⟩ :: r, s, s', h => by
    simp only [runP, aopD] at h
    cases ha : aval P op s with
    | none => rw [ha] at h; cases h
    | some v =>
      rw [ha] at h
      simp only [ob] at h
      cases hb : s.setv d v with
      | none => rw [hb] at h; cases h
      | some s1 =>
        rw [hb] at h
        obtain ⟨q1, q2, q3⟩ := runP_keep h
        obtain ⟨e1, e2, e3, e4⟩ := setv_get hb
        refine ⟨q1.trans e1, q2.trans e2, fun i hi => ?_⟩
        cases d with
        | none => exact (q3 i hi).trans (e3 i (by simp))
        | some d =>
          simp only [dstsOf, List.mem_cons, not_or] at hi
          exact (q3 i hi.2).trans (e3 i (by simp only [ne_eq, Option.some.injEq]; exact fun e => hi.1 e.symm))
  | ⟨d, op, some g⟩ :: r, s, s', h => by cases h
theorem runP_wp {K : List Nat} {ops : Array Oper} : ∀ (l : List Oper) (n : Nat), (∀ j, j < l.length → ops[n + j]? = l[j]?) → ∀ {sl : List Sop} {s s' : St}, copS ops l = some sl → runP P sl s = some s' → ∀ {g : G} {a : Act} {w : World}, Sim g s a w →
    ∀ {Q : Exit → Act → World → Prop}, (∀ a', Sim g s' a' w → Q .normal a' w) → wpOps P ops Q ((List.range l.length).map (n + ·)) a w
  | [], n, _, sl, s, s', hc, hr, g, a, w, hs, Q, hq => by
    simp only [copS, Option.some.injEq] at hc; subst hc
    simp only [runP, Option.some.injEq] at hr; subst hr
    exact hq a hs
  | o :: r, n, hops, sl, s, s', hc, hr, g, a, w, hs, Q, hq => by
    have ho : ops[n]? = some o := by simpa using hops 0 (by simp)
    have hrest : ∀ j, j < r.length → ops[n + 1 + j]? = r[j]? := fun j hj => by
      have := hops (j + 1) (by simp; omega)
      rw [show n + 1 + j = n + (j + 1) by omega]
      simpa using this
    have hlist : (List.range (o :: r).length).map (n + ·) = n :: (List.range r.length).map (n + 1 + ·) := by
      rw [List.length_cons, List.range_succ_eq_map, List.map_cons, List.map_map]
      congr 1
      apply List.map_congr_left
      intro x _
      simp; omega
    rw [hlist]
    simp only [wpOps, ho]
    simp only [copS] at hc
    split at hc
    · rename_i l h1 h2
      simp only [Option.some.injEq] at hc; subst hc
      simp only [runP, aopD] at hr
      cases ha : aval P o.op s with
      | none => rw [ha] at hr; cases hr
      | some v =>
        rw [ha] at hr
        simp only [ob] at hr
        cases hb : s.setv o.dst v with
        | none => rw [hb] at hr; cases hr
        | some s1 =>
          rw [hb] at hr
          obtain ⟨u, q1, q2⟩ := aval_sound hs ha
          obtain ⟨q3, _⟩ := setv_sound hs q2 hb
          have : Region.wanted o (yielded ops a.tmps) = true := by unfold Region.wanted; rw [h1]
          rw [if_pos this]
          refine .inl ?_
          simp only [Oper.wp, q1, Oper.upon]
          exact runP_wp (K := K) r (n + 1) hrest h2 hr q3 hq
    · rename_i j w' l h1 h2
      split at hc
      · simp only [Option.some.injEq] at hc; subst hc
        cases hr
      · cases hc
    · cases hc
theorem sim_le {g : G} {s s3 : St} {a : Act} {w : World} (hs : Sim g s a w) (hn : s3.n = s.n) (ht : ∀ i, Le (s.get i) (s3.get i)) (hh : s3.hp = s.hp) : Sim g s3 a w :=
  ⟨hs.n.trans hn.symm, hs.df, fun i => ht i g w _ (hs.tm i), by rw [hh]; exact hs.hp⟩
theorem WC_runP {K : List Nat} {l : List Sop} {s s' s3 : St} {Q : Exit → St → Prop} (h : runP P l s = some s') (hn : s3.n = s'.n) (ht : ∀ i, Le (s'.get i) (s3.get i)) (hh : s3.hp = s'.hp) (hq : Q .normal s3) : WC P K (.region l) s Q := fun c hc => by
  cases c with
  | region a ops draw =>
    rcases comp_region (a := a) (b := 0) (ops := ops) (draw := draw) with ⟨l', e, e1, e2⟩ | ⟨l', e, _⟩ | e <;> rw [e] at hc
    · simp only [Cc.region.injEq] at hc; subst hc; subst e1
      intro g a w hk hs
      refine wp_region ?_
      have := runP_wp (P := P) (K := K) ops.toList 0 (fun j hj => by simp) e2 h hs (Q := fun e a' w' => ∃ s'' g', Sim g' s'' a' w' ∧ To K g s.hp w g' s''.hp w' ∧ Q e s'') fun a' hs' => ⟨s3, g, sim_le hs' hn ht hh, by rw [hh, (runP_keep h).1]; exact To.refl hk, hq⟩
      simpa using this
    · cases hc
    · cases hc
  | _ => simp [compC] at hc
theorem WC_skipL {K : List Nat} {s s3 : St} {Q : Exit → St → Prop} (hn : s3.n = s.n) (ht : ∀ i, Le (s.get i) (s3.get i)) (hh : s3.hp = s.hp) (h : Q .normal s3) : WC P K .skip s Q := fun c hc => by
  cases c with
  | skip => exact fun g a w hk hs => wp_skip ⟨s3, g, sim_le hs hn ht hh, by rw [hh]; exact To.refl hk, h⟩
  | region a ops draw => rcases comp_region (a := a) (b := 0) (ops := ops) (draw := draw) with ⟨l, e, _⟩ | ⟨l, e, _⟩ | e <;> rw [e] at hc <;> cases hc
  | _ => simp [compC] at hc

theorem WC_le {K : List Nat} {s s' : St} {c : Cc} {Q : Exit → St → Prop} (hn : s'.n = s.n) (ht : ∀ i, Le (s.get i) (s'.get i)) (hh : s'.hp = s.hp) (h : WC P K c s' Q) : WC P K c s Q := fun cc hc g a w hk hs =>
  wp_mono (h cc hc g a w (by rw [hh]; exact hk) ⟨hs.n.trans hn.symm, hs.df, fun i => ht i g w _ (hs.tm i), by rw [hh]; exact hs.hp⟩) fun e a' w' ⟨s2, g', q1, q2, q3⟩ => ⟨s2, g', q1, by rw [hh] at q2; exact q2, q3⟩
theorem phi_le {b : Bool} {s s1 s2 : St} {l1 l2 : List Sop} (h1 : runP P l1 s = some s1) (h2 : runP P l2 s = some s2) (i : Nat) :
    Le ((bif b then s1 else s2).get i) (({ s with tm := phiS b s1 s2 (app (dstsOf l1) (dstsOf l2)) s.tm } : St).get i) := by
  have happ : ∀ (l m : List Nat) (x : Nat), x ∈ app l m ↔ x ∈ l ∨ x ∈ m := fun l m x => by
    induction l with
    | nil => simp [app]
    | cons y r ih => simp [app, ih, or_assoc]
  by_cases hi : i ∈ app (dstsOf l1) (dstsOf l2)
  · have : ({ s with tm := phiS b s1 s2 (app (dstsOf l1) (dstsOf l2)) s.tm } : St).get i = phiAV b (s1.get i) (s2.get i) := by
      unfold St.get
      rw [show lk ({ s with tm := phiS b s1 s2 (app (dstsOf l1) (dstsOf l2)) s.tm } : St).tm i = _ from phiS_mem hi]
      rfl
    rw [this]
    unfold phiAV
    split
    · rename_i x y hx hy
      rw [phiD_eq]
      cases b
      · simp only [cond_false, hy]; exact Le.refl _
      · simp only [cond_true, hx]; exact Le.refl _
    · exact Le.any _
  · have hni : i ∉ dstsOf l1 ∧ i ∉ dstsOf l2 := by rw [happ] at hi; exact not_or.1 hi
    have : ({ s with tm := phiS b s1 s2 (app (dstsOf l1) (dstsOf l2)) s.tm } : St).get i = s.get i := by
      unfold St.get
      rcases phiS_spec (b := b) (s1 := s1) (s2 := s2) (W := app (dstsOf l1) (dstsOf l2)) (tm := s.tm) (i := i) with h | ⟨h, _⟩
      · rw [h]
      · exact absurd h hi
    rw [this]
    cases b
    · rw [cond_false, (runP_keep h2).2.2 i hni.2]; exact Le.refl _
    · rw [cond_true, (runP_keep h1).2.2 i hni.1]; exact Le.refl _
/-- Two ways that only reckon, and meet. -/
theorem RUN_phi2 {K : List Nat} {s s1 s2 s3 : St} {Q : Exit → St → Prop} {o : Operand} {l1 l2 : List Sop} {b : Bool} (hb : ∀ q, s.ev o = q → q = .d (.bool b)) (h1 : ∀ q, runP P l1 s = q → q = some s1) (h2 : ∀ q, runP P l2 s = q → q = some s2)
    (h3 : ∀ q, ({ s with tm := phiS b s1 s2 (app (dstsOf l1) (dstsOf l2)) s.tm } : St) = q → q = s3) (hk : Q .normal s3) : WC P K (.cond o (.region l1) (.region l2)) s Q := by
  have h1 := h1 _ rfl
  have h2 := h2 _ rfl
  have h3 := h3 _ rfl
  refine WC_cv (hb _ rfl) (fun e => ?_) fun e => ?_
  · subst e
    refine WC_runP h1 (by rw [← h3]; exact (runP_keep h1).2.1.symm) (fun i => ?_) (by rw [← h3]; exact (runP_keep h1).1.symm) hk
    rw [← h3]; exact phi_le (b := true) h1 h2 i
  · subst e
    refine WC_runP h2 (by rw [← h3]; exact (runP_keep h2).2.1.symm) (fun i => ?_) (by rw [← h3]; exact (runP_keep h2).1.symm) hk
    rw [← h3]; exact phi_le (b := false) h1 h2 i
theorem RUN_phi {K : List Nat} {s s1 s3 : St} {Q : Exit → St → Prop} {o : Operand} {l1 : List Sop} {b : Bool} (hb : ∀ q, s.ev o = q → q = .d (.bool b)) (h1 : ∀ q, runP P l1 s = q → q = some s1)
    (h3 : ∀ q, ({ s with tm := phiS b s1 s (app (dstsOf l1) []) s.tm } : St) = q → q = s3) (hk : Q .normal s3) : WC P K (.cond o (.region l1) .skip) s Q := by
  have h1 := h1 _ rfl
  have h2 : runP P [] s = some s := rfl
  have h3 := h3 _ rfl
  refine WC_cv (hb _ rfl) (fun e => ?_) fun e => ?_
  · subst e
    refine WC_runP h1 (by rw [← h3]; exact (runP_keep h1).2.1.symm) (fun i => ?_) (by rw [← h3]; exact (runP_keep h1).1.symm) hk
    rw [← h3]; exact phi_le (b := true) (l2 := []) h1 h2 i
  · subst e
    refine WC_skipL (by rw [← h3]) (fun i => ?_) (by rw [← h3]) hk
    rw [← h3]; exact phi_le (b := false) (l2 := []) h1 h2 i
theorem RUN_ct {K : List Nat} {s : St} {Q : Exit → St → Prop} {o : Operand} {x y : Cc} (hb : ∀ q, s.ev o = q → q = .d (.bool true)) (h1 : WC P K x s Q) : WC P K (.cond o x y) s Q := WC_cv (hb _ rfl) (fun _ => h1) fun e => by cases e
theorem RUN_cf {K : List Nat} {s : St} {Q : Exit → St → Prop} {o : Operand} {x y : Cc} (hb : ∀ q, s.ev o = q → q = .d (.bool false)) (h1 : WC P K y s Q) : WC P K (.cond o x y) s Q := WC_cv (hb _ rfl) (fun e => by cases e) fun _ => h1
end Go.Wl

/- Values and memory told without addresses: calls of functions that only answer. -/
set_option linter.unusedVariables false
set_option linter.unusedSimpArgs false
namespace Go.Wl
variable {P : Program}

/-- The answer is this; no memory comes back. -/
abbrev isD (x : D) : AV → Hp → Prop := fun r hp => r = .d x ∧ hp = []
def toDs : List AV → Option (List D)
  | [] => some []
  | x :: r => (match x.toD, toDs r with
    | some y, some l => some (y :: l)
    | _, _ => none)
theorem toDs_asArgs : ∀ {l : List AV} {ds : List D}, toDs l = some ds → asArgs (l.map fun _ => true) l = some (ds.map .d)
  | [], ds, h => by simp only [toDs, Option.some.injEq] at h; subst h; rfl
  | x :: r, ds, h => by
    simp only [toDs] at h
    split at h
    · rename_i y l h1 h2
      simp only [Option.some.injEq] at h; subst h
      simp only [List.map_cons, asArgs, h1, toDs_asArgs h2]
    · cases h
theorem after_pure {s s' : St} {d : Option Nat} {x : D} (hs : s.setv d (.d x) = some s') : afterOk s [] d (.d x) [] = true ∧ s.after [] d (.d x) [] = s' := by
  unfold St.setv at hs
  split at hs
  · rename_i t
    cases ht : ltb t s.n
    · rw [ht] at hs; cases hs
    · rw [ht] at hs
      simp only [cond_true, Option.some.injEq] at hs; subst hs
      refine ⟨?_, rfl⟩
      simp [afterOk, ht, hpAll, AV.refs, hpRefs]
  · simp only [Option.some.injEq] at hs; subst hs
    refine ⟨?_, rfl⟩
    simp [afterOk, hpAll, AV.refs, hpRefs]
theorem pcall {K : List Nat} {d : Option Nat} {f : Operand} {args : Array Operand} {ats : Array TypeId} {r : List Sop} {s s' : St} {k : St → Prop} {id : FuncId} {first caps : List D} {ds : List D} {x : D}
    (hf : s.ev f = .d (.func (.func id) first caps)) (ha : toDs (first.map .d ++ args.toList.map s.ev ++ caps.map .d) = some ds) (hC : Con P id (ds.map .d) [] (isD x)) (hs : s.setv d (.d x) = some s')
    (hk : WRs P K r s' k) : WRs P K (⟨d, .call { callee := .value f, args, argTypes := ats }, none⟩ :: r) s k := by
  refine RUN_call (first := first) (caps := caps) _ [] (fun q hq => by rw [← hq]; exact hf) (fun q hq => by rw [← hq]; exact toDs_asArgs ha) (fun q hq => hq.symm) hC ?_
  rintro r' hp' ⟨rfl, rfl⟩
  obtain ⟨h1, h2⟩ := after_pure hs
  exact ⟨h1, fun q hq => by rw [← hq, h2]; exact hk⟩
theorem setv_hp {s s' : St} {d : Option Nat} {v : AV} (hs : s.setv d v = some s') : s'.hp = s.hp := by
  unfold St.setv at hs
  split at hs
  · rename_i t
    cases ht : ltb t s.n
    · rw [ht] at hs; cases hs
    · rw [ht] at hs
      simp only [cond_true, Option.some.injEq] at hs; subst hs; rfl
  · simp only [Option.some.injEq] at hs; subst hs; rfl
theorem RUN_pcall {K : List Nat} {d : Option Nat} {f : Operand} {args : Array Operand} {ats : Array TypeId} {r : List Sop} {s s' : St} {k : St → Prop} {id : FuncId} {first caps : List D} {ds : List D} {x : D}
    (hf : ∀ q, s.ev f = q → q = .d (.func (.func id) first caps)) (ha : ∀ q, toDs (first.map .d ++ args.toList.map s.ev ++ caps.map .d) = q → q = some ds) (hC : Con P id (ds.map .d) [] (isD x)) (hs : ∀ q, s.setv d (.d x) = q → q = some s')
    (hk : WRs P K r s' k) : WRs P K (⟨d, .call { callee := .value f, args, argTypes := ats }, none⟩ :: r) s k := pcall (hf _ rfl) (ha _ rfl) hC (hs _ rfl) hk
theorem RUND_pcall {K DD : List Nat} {m p : Bool} {d : Option Nat} {f : Operand} {args : Array Operand} {ats : Array TypeId} {r : List (Sop × Kd)} {s s' : St} {k : St → Prop} {id : FuncId} {first caps : List D} {ds : List D} {x : D}
    (hf : ∀ q, s.ev f = q → q = .d (.func (.func id) first caps)) (ha : ∀ q, toDs (first.map .d ++ args.toList.map s.ev ++ caps.map .d) = q → q = some ds) (hC : Con P id (ds.map .d) [] (isD x)) (hs : ∀ q, s.setv d (.d x) = q → q = some s')
    (hD : ∀ q, sameOn DD s' s = q → q) (hk : WDs P K (m && p) r s' k) : WDs P K m ((⟨d, .call { callee := .value f, args, argTypes := ats }, none⟩, .ch DD p) :: r) s k :=
  RUND_call (pcall (hf _ rfl) (ha _ rfl) hC (hs _ rfl) ⟨hD _ rfl, fun _ => setv_hp (hs _ rfl), hk⟩)
theorem RUN_pcallB {K : List Nat} {d : Option Nat} {f : Operand} {args : Array Operand} {ats : Array TypeId} {r : List Sop} {s : St} {s' : Bool → St} {k : St → Prop} {id : FuncId} {first caps : List D} {ds : List D} {x : Bool}
    (hf : ∀ q, s.ev f = q → q = .d (.func (.func id) first caps)) (ha : ∀ q, toDs (first.map .d ++ args.toList.map s.ev ++ caps.map .d) = q → q = some ds) (hC : Con P id (ds.map .d) [] (isD (.bool x))) (hs : ∀ b q, s.setv d (.d (.bool b)) = q → q = some (s' b))
    (hk : ∀ b, x = b → WRs P K r (s' b) k) : WRs P K (⟨d, .call { callee := .value f, args, argTypes := ats }, none⟩ :: r) s k := pcall (hf _ rfl) (ha _ rfl) hC (hs x _ rfl) (hk x rfl)
theorem RUND_pcallB {K DD : List Nat} {m p : Bool} {d : Option Nat} {f : Operand} {args : Array Operand} {ats : Array TypeId} {r : List (Sop × Kd)} {s : St} {s' : Bool → St} {k : St → Prop} {id : FuncId} {first caps : List D} {ds : List D} {x : Bool}
    (hf : ∀ q, s.ev f = q → q = .d (.func (.func id) first caps)) (ha : ∀ q, toDs (first.map .d ++ args.toList.map s.ev ++ caps.map .d) = q → q = some ds) (hC : Con P id (ds.map .d) [] (isD (.bool x))) (hs : ∀ b q, s.setv d (.d (.bool b)) = q → q = some (s' b))
    (hD : ∀ b q, sameOn DD (s' b) s = q → q) (hk : ∀ b, x = b → WDs P K (m && p) r (s' b) k) : WDs P K m ((⟨d, .call { callee := .value f, args, argTypes := ats }, none⟩, .ch DD p) :: r) s k :=
  RUND_call (pcall (hf _ rfl) (ha _ rfl) hC (hs x _ rfl) ⟨hD x _ rfl, fun _ => setv_hp (hs x _ rfl), hk x rfl⟩)
/-- What a function answers, of data. -/
abbrev Pu (P : Program) (f : FuncId) (ds : List D) (x : D) : Prop := Con P f (ds.map .d) [] (isD x)
theorem Pu.ofWC {f : FuncId} {fn : Func} {cc : Cc} {ds : List D} {x : D} (hf : P.funcs[f]? = some fn) (hb : bodyC fn = cc) (hne : cc ≠ .bad) (hcb : cbl P f = true) {n : Nat} (hn : fn.ntmps = n) {rs : List ResultVar} (hrs : fn.results.toList = rs) (hlen : ds.length ≤ n)
    (h : WC P [] cc { n := n, tm := numb 0 (ds.map .d), hp := [] } (retQ P rs [] (isD x))) : Pu P f ds x := by
  subst hn; subst hrs
  exact Con.ofWC hf hb hne hcb (by simpa using hlen) [] rfl h
end Go.Wl

/- Values and memory told without addresses: lists that will grow. -/
set_option linter.unusedVariables false
set_option linter.unusedSimpArgs false
namespace Go.Wl
variable {P : Program}

/-- A nil slice, seen as a list that grows in place: of no room yet. -/
theorem WC_claim {K : List Nat} {s s' : St} {c : Cc} {Q : Exit → St → Prop} (t m k : Nat) (hk : 0 < k) (ht : s.get t = .nils) (hf : freshN s t m = true) (hs' : ∀ q, ({ s with tm := lset s.tm t (.sl m []), hp := lset s.hp m (.tail k) } : St) = q → q = s') (h : WC P K c s' Q) : WC P K c s Q := fun cc hc g a w hK hs => by
  have hs' := hs' _ rfl
  subst hs'
  obtain ⟨hnt, hr, htl⟩ := freshN_spec hf
  obtain ⟨hA, hB⟩ := hs.hp.noRoom htl hr k hk
  have hmK : m ∉ K := fun hm => by
    obtain ⟨ob, h1, h2⟩ := hK m hm
    obtain ⟨sz, h3⟩ := htl ob h1
    exact h2 sz h3
  have hsame : ∀ n, n ≠ m → (g.setτ m ⟨0, 0, 0, k⟩).ρ n = g.ρ n ∧ (g.setτ m ⟨0, 0, 0, k⟩).τ n = g.τ n := fun n hn => by simp [G.setτ, hn]
  have hsim : Sim (g.setτ m ⟨0, 0, 0, k⟩) { s with tm := lset s.tm t (.sl m []), hp := lset s.hp m (.tail k) } a w := by
    refine ⟨hs.n, hs.df, fun i => ?_, hA⟩
    have hi := hs.tm i
    unfold St.get
    simp only [lk_lset]
    by_cases e : t = i
    · subst e
      rw [if_pos rfl]
      rw [ht] at hi
      generalize a.tmps.getD t undef = v at hi
      cases hi with
      | nils => exact .sl (.list 0 (fun _ _ => undef) rfl (Nat.le_refl _) (by simp) (by simp) (by simp) (by simp)) (by simp) (by simp [G.setτ]) (fun h0 => by simp [G.setτ] at h0)
    · rw [if_neg e]
      exact Rel.mono (g := g) (w := w) (g' := g.setτ m ⟨0, 0, 0, k⟩) (fun _ _ h => h) (fun _ _ _ => rfl) hi fun n hn => hsame n fun e' => hnt i (Ne.symm e) (e' ▸ hn)
  have hKi : KIn K (lset s.hp m (.tail k)) := fun n hn => by
    obtain ⟨ob, h1, h2⟩ := hK n hn
    exact ⟨ob, by rw [lk_lset, if_neg (fun e : m = n => hmK (e ▸ hn))]; exact h1, h2⟩
  have hto : To K g s.hp w (g.setτ m ⟨0, 0, 0, k⟩) (lset s.hp m (.tail k)) w := ⟨Ev.world rfl rfl rfl rfl (fun _ _ => Iff.rfl) hB, fun n hn => hsame n fun e => hmK (e ▸ hn), hKi⟩
  exact wp_mono (h cc hc _ a w hKi hsim) fun e a' w' ⟨s2, g', q1, q2, q3⟩ => ⟨s2, g', q1, hto.trans q2, q3⟩
end Go.Wl

/- Values and memory told without addresses: what is written no more. -/
set_option linter.unusedVariables false
set_option linter.unusedSimpArgs false
namespace Go.Wl
variable {P : Program}
theorem wd_int (k : IntKind) (n : Int) : D.width (.int k n) = 1 := rfl
theorem cl_int (k : IntKind) (n : Int) : D.cells (.int k n) = [.int k n] := rfl
theorem wd_bool (b : Bool) : D.width (.bool b) = 1 := rfl
theorem cl_bool (b : Bool) : D.cells (.bool b) = [.bool b] := rfl
theorem wd_str (b : List UInt8) : D.width (.str b) = 1 := rfl
theorem cl_str (b : List UInt8) : D.cells (.str b) = [.str b] := rfl
theorem wd_nilp  : D.width (.nilp) = 1 := rfl
theorem cl_nilp  : D.cells (.nilp) = [.nilp] := rfl
theorem wd_nilfunc  : D.width (.nilfunc) = 1 := rfl
theorem cl_nilfunc  : D.cells (.nilfunc) = [.nilfunc] := rfl
theorem wd_nilif  : D.width (.nilif) = 1 := rfl
theorem cl_nilif  : D.cells (.nilif) = [.nilif] := rfl
theorem wd_list (l : List D) : D.width (.list l) = 1 := rfl
theorem cl_list (l : List D) : D.cells (.list l) = [.list l] := rfl
theorem wd_cptr (x : D) : D.width (.cptr x) = 1 := rfl
theorem cl_cptr (x : D) : D.cells (.cptr x) = [.cptr x] := rfl
theorem wd_iface (t : TypeId) (x : D) : D.width (.iface t x) = 1 := rfl
theorem cl_iface (t : TypeId) (x : D) : D.cells (.iface t x) = [.iface t x] := rfl
theorem wd_func (f : Fn) (a c : List D) : D.width (.func f a c) = 1 := rfl
theorem cl_func (f : Fn) (a c : List D) : D.cells (.func f a c) = [.func f a c] := rfl
theorem wd_agg (l : List D) : D.width (.agg l) = l.length := rfl
theorem cl_agg (l : List D) : D.cells (.agg l) = l := rfl

/-- An own object that one slot knows becomes data. -/
theorem WC_seal {K : List Nat} {s s' : St} {c : Cc} {Q : Exit → St → Prop} (t n : Nat) (x : D) (ht : s.get t = .ptr n 0) (hn : lk s.hp n = some (.cells (x.cells.map .d))) (hf : (bif tmHas n (ldel s.tm t) then true else hpHas n s.hp) = false) (hK : memb K n = false)
    (hs' : ∀ q, ({ s with tm := lset s.tm t (.d (.cptr x)), hp := ldel s.hp n } : St) = q → q = s') (h : WC P K c s' Q) : WC P K c s Q := fun cc hc g a w hki hs => by
  have hs' := hs' _ rfl
  subst hs'
  obtain ⟨hr0, hr⟩ := noref hf
  have hnt : ∀ i, i ≠ t → n ∉ (s.get i).refs := fun i hi hd => hr0 (refs_ldel hi hd)
  have hnK : n ∉ K := fun hm => by rw [(memb_iff _ _).2 hm] at hK; cases hK
  obtain ⟨cs, e, fr, hb, hl, hfz, hv⟩ := hs.hp.ob n _ hn
  rw [List.length_map] at hl
  have hcell : ∀ o, o < cs.size → w.cell? ⟨g.ρ n, o, none⟩ = some (cs.getD o undef) := fun o ho => by rw [cell_of hb]; simp [ho]
  let g2 : G := g.seal fun b o => b = g.ρ n ∧ o < x.cells.length
  have hS : ∀ b o, g.S b o → g2.S b o := fun b o h => .inl h
  have hlk : ∀ m ob, lk (ldel s.hp n) m = some ob → m ≠ n ∧ lk s.hp m = some ob := fun m ob hm => by
    rw [lk_ldel] at hm
    split at hm
    · cases hm
    · rename_i hne; exact ⟨Ne.symm hne, hm⟩
  have hO : ∀ b o, Own g2 (ldel s.hp n) b o → Own g s.hp b o := fun b o ⟨m, ob, hm, ho⟩ => ⟨m, ob, (hlk m ob hm).2, by cases ob <;> exact ho⟩
  have hown : ∀ b o, b = g.ρ n → Own g s.hp b o := fun b o e => ⟨n, _, hn, e⟩
  have hH : SimH g2 (ldel s.hp n) w := by
    refine ⟨fun m ob hm => ?_, fun b o h1 h2 => ?_, fun m p o1 o2 h1 h2 hne b o q1 q2 => ?_, fun b o h1 => ?_⟩
    · exact ObRel.mono hS (fun _ _ _ => rfl) ⟨rfl, rfl⟩ (fun _ _ => ⟨rfl, rfl⟩) (fun _ _ => rfl) (hs.hp.ob m ob (hlk m ob hm).2)
    · rcases h1 with h1 | ⟨rfl, _⟩
      · exact hs.hp.sep b o h1 (hO b o h2)
      · obtain ⟨m, ob, hm, ho⟩ := h2
        obtain ⟨hne, hm⟩ := hlk m ob hm
        exact hs.hp.dis n m _ ob hn hm (Ne.symm hne) (g.ρ n) o rfl (by cases ob <;> exact ho)
    · exact hs.hp.dis m p o1 o2 (hlk _ _ h1).2 (hlk _ _ h2).2 hne b o (by cases o1 <;> exact q1) (by cases o2 <;> exact q2)
    · rcases h1 with h1 | ⟨rfl, h1⟩
      · exact hs.hp.ex b o h1
      · exact ⟨_, hcell o (by omega)⟩
  have hsim : Sim g2 { s with tm := lset s.tm t (.d (.cptr x)), hp := ldel s.hp n } a w := by
    refine ⟨hs.n, hs.df, fun i => ?_, hH⟩
    have hi := hs.tm i
    unfold St.get
    simp only [lk_lset]
    by_cases e : t = i
    · subst e
      rw [if_pos rfl]
      rw [ht] at hi
      generalize a.tmps.getD t undef = v at hi
      cases hi with
      | ptr =>
        refine .d (.cptr (fun j => cs.getD j undef) (fun j c hj => ?_) fun j c hj => ?_)
        · have hjl := (List.getElem?_eq_some_iff.1 hj).1
          exact ⟨.inr ⟨rfl, by simpa using hjl⟩, by rw [Nat.zero_add]; exact hcell j (by omega)⟩
        · have := hv j (.d c) (by simp [hj])
          show Rep g2.S w (cs.getD j undef) c
          generalize cs.getD j undef = u at this
          cases this with
          | d h => exact h.mono hS fun _ _ _ => rfl
    · rw [if_neg e]
      exact Rel.mono (g := g) (w := w) (g' := g2) hS (fun _ _ _ => rfl) hi fun _ _ => ⟨rfl, rfl⟩
  have hKi : KIn K (ldel s.hp n) := fun m hm => by
    obtain ⟨ob, h1, h2⟩ := hki m hm
    exact ⟨ob, by rw [lk_ldel, if_neg (fun e : n = m => hnK (e ▸ hm))]; exact h1, h2⟩
  have hto : To K g s.hp w g2 (ldel s.hp n) w := ⟨⟨rfl, rfl, rfl, Nat.le_refl _, fun _ _ _ => rfl, fun _ _ _ _ => rfl, fun _ c _ _ h => ⟨c, h, rfl⟩, hS, fun b f h => by
    rcases h with h | ⟨h, _⟩
    · exact .inl h
    · exact .inr (.inl (hown b f h)), fun b f h => .inl (hO b f h)⟩, fun _ _ => ⟨rfl, rfl⟩, hKi⟩
  exact wp_mono (h cc hc _ a w hKi hsim) fun e a' w' ⟨s2, g', q1, q2, q3⟩ => ⟨s2, g', q1, hto.trans q2, q3⟩
end Go.Wl

/- Values and memory told without addresses: a cell that will grow. -/
set_option linter.unusedVariables false
set_option linter.unusedSimpArgs false
namespace Go.Wl
variable {P : Program}

/-- A nil slice in a cell of an own object, seen as a list that grows in place. -/
theorem WC_claimC {K : List Nat} {s s' : St} {c : Cc} {Q : Exit → St → Prop} (n j t m k : Nat) {vs : List AV} (hk : 0 < k) (ht : s.get t = .any) (hn : lk s.hp n = some (.cells vs)) (hj : vs[j]? = some .nils) (hf : freshN s t m = true)
    (hs' : ∀ q, ({ s with hp := lset (lset s.hp m (.tail k)) n (.cells (vs.set j (.sl m []))) } : St) = q → q = s') (h : WC P K c s' Q) : WC P K c s Q := fun cc hc g a w hK hs => by
  have hs' := hs' _ rfl
  subst hs'
  obtain ⟨hnt, hr, htl⟩ := freshN_spec hf
  obtain ⟨hA, hB⟩ := hs.hp.noRoom htl hr k hk
  have hnm : n ≠ m := fun e => by
    subst e
    obtain ⟨sz, h3⟩ := htl _ hn
    cases h3
  have hmK : m ∉ K := fun hm => by
    obtain ⟨ob, h1, h2⟩ := hK m hm
    obtain ⟨sz, h3⟩ := htl ob h1
    exact h2 sz h3
  have hsame : ∀ n, n ≠ m → (g.setτ m ⟨0, 0, 0, k⟩).ρ n = g.ρ n ∧ (g.setτ m ⟨0, 0, 0, k⟩).τ n = g.τ n := fun n hn => by simp [G.setτ, hn]
  have hn1 : lk (lset s.hp m (.tail k)) n = some (.cells vs) := by rw [lk_lset, if_neg (Ne.symm hnm)]; exact hn
  have hO : ∀ b o, Own (g.setτ m ⟨0, 0, 0, k⟩) (lset (lset s.hp m (.tail k)) n (.cells (vs.set j (.sl m [])))) b o → Own (g.setτ m ⟨0, 0, 0, k⟩) (lset s.hp m (.tail k)) b o := fun b o ⟨p, ob, h1, h2⟩ => by
    rw [lk_lset] at h1
    split at h1
    · rename_i e
      subst e
      cases h1
      exact ⟨n, _, hn1, h2⟩
    · exact ⟨p, ob, h1, h2⟩
  have hlk : ∀ p ob, lk (lset (lset s.hp m (.tail k)) n (.cells (vs.set j (.sl m [])))) p = some ob → ∃ ob', lk (lset s.hp m (.tail k)) p = some ob' ∧ ∀ b o, ownO (g.setτ m ⟨0, 0, 0, k⟩) p ob b o → ownO (g.setτ m ⟨0, 0, 0, k⟩) p ob' b o := fun p ob h1 => by
    rw [lk_lset] at h1
    split at h1
    · rename_i e
      subst e
      cases h1
      exact ⟨_, hn1, fun _ _ h => h⟩
    · exact ⟨ob, h1, fun _ _ h => h⟩
  have hA2 : SimH (g.setτ m ⟨0, 0, 0, k⟩) (lset (lset s.hp m (.tail k)) n (.cells (vs.set j (.sl m [])))) w := by
    refine ⟨fun p ob hp => ?_, fun b o h1 h2 => hA.sep b o h1 (hO b o h2), fun p q o1 o2 h1 h2 hne b o q1 q2 => ?_, hA.ex⟩
    · rw [lk_lset] at hp
      split at hp
      · rename_i e
        subst e
        cases hp
        obtain ⟨cs, e, fr, r1, r2, r3, r4⟩ := hA.ob n _ hn1
        refine ⟨cs, e, fr, r1, by rw [List.length_set]; exact r2, r3, fun j' x hx => ?_⟩
        by_cases e : j = j'
        · subst e
          have hjl := (List.getElem?_eq_some_iff.1 hj).1
          rw [List.getElem?_set_self hjl] at hx
          cases hx
          have hi := r4 j .nils hj
          generalize cs.getD j undef = v at hi
          cases hi with
          | nils => exact .sl (.list 0 (fun _ _ => undef) rfl (Nat.le_refl _) (by simp) (by simp) (by simp) (by simp)) (by simp) (by simp [G.setτ]) (fun h0 => by simp [G.setτ] at h0)
        · rw [List.getElem?_set_ne e] at hx
          exact r4 j' x hx
      · exact hA.ob p ob hp
    · obtain ⟨p1, e1, f1⟩ := hlk p o1 h1
      obtain ⟨p2, e2, f2⟩ := hlk q o2 h2
      exact hA.dis p q p1 p2 e1 e2 hne b o (f1 b o q1) (f2 b o q2)
  have hsim : Sim (g.setτ m ⟨0, 0, 0, k⟩) { s with hp := lset (lset s.hp m (.tail k)) n (.cells (vs.set j (.sl m []))) } a w := by
    refine ⟨hs.n, hs.df, fun i => ?_, hA2⟩
    have hi := hs.tm i
    refine Rel.mono (g := g) (w := w) (g' := g.setτ m ⟨0, 0, 0, k⟩) (fun _ _ h => h) (fun _ _ _ => rfl) hi fun n hn => hsame n fun e' => ?_
    by_cases e : i = t
    · subst e
      have hn : n ∈ (s.get i).refs := hn
      rw [ht] at hn; cases hn
    · exact hnt i e (e' ▸ hn)
  have hKi : KIn K (lset (lset s.hp m (.tail k)) n (.cells (vs.set j (.sl m [])))) := fun p hp => by
    obtain ⟨ob, h1, h2⟩ := hK p hp
    by_cases e : n = p
    · subst e
      exact ⟨_, by rw [lk_lset, if_pos rfl], fun sz => by simp⟩
    · exact ⟨ob, by rw [lk_lset, if_neg e, lk_lset, if_neg (fun e : m = p => hmK (e ▸ hp))]; exact h1, h2⟩
  have hto : To K g s.hp w (g.setτ m ⟨0, 0, 0, k⟩) (lset (lset s.hp m (.tail k)) n (.cells (vs.set j (.sl m [])))) w := ⟨Ev.world rfl rfl rfl rfl (fun _ _ => Iff.rfl) (fun b o h => hB b o (hO b o h)), fun n hn => hsame n fun e => hmK (e ▸ hn), hKi⟩
  exact wp_mono (h cc hc _ a w hKi hsim) fun e a' w' ⟨s2, g', q1, q2, q3⟩ => ⟨s2, g', q1, hto.trans q2, q3⟩
end Go.Wl

/- Values and memory told without addresses: what the kit tells of a call, as a contract. -/
set_option linter.unusedVariables false
namespace Go.Wl
variable {P : Program}
/-- Data of which there is one value. -/
def D.only : D → Option Value
  | .int k n => some (.int k n)
  | .bool b => some (.bool b)
  | _ => none
def onlys : List D → Option (List Value)
  | [] => some []
  | x :: r => (match x.only, onlys r with
    | some v, some l => some (v :: l)
    | _, _ => none)
/-- A struct of such data, too. -/
def D.one1 : D → Option Value
  | .agg cs => (match onlys cs with
    | some l => some (.agg l.toArray)
    | none => none)
  | x => x.only
theorem only_spec {S : Nat → Nat → Prop} {w : World} {v u : Value} {x : D} (h : Rep S w v x) (ho : x.only = some u) : v = u := by
  cases h <;> simp [D.only] at ho <;> exact ho
theorem only_rep {S : Nat → Nat → Prop} {w : World} {u : Value} {x : D} (ho : x.only = some u) : Rep S w u x := by
  cases x <;> simp [D.only] at ho <;> subst ho
  · exact .int
  · exact .bool
theorem onlys_len : ∀ {l : List D} {us : List Value}, onlys l = some us → us.length = l.length
  | [], us, h => by simp only [onlys, Option.some.injEq] at h; subst h; rfl
  | x :: r, us, h => by
    simp only [onlys] at h
    split at h
    · rename_i v l h1 h2
      simp only [Option.some.injEq] at h; subst h
      simp [onlys_len h2]
    · cases h
theorem onlys_get : ∀ {l : List D} {us : List Value}, onlys l = some us → ∀ (j : Nat) (x : D), l[j]? = some x → x.only = some (us.getD j undef)
  | [], us, h, j, x, hj => by simp at hj
  | y :: r, us, h, j, x, hj => by
    simp only [onlys] at h
    split at h
    · rename_i v l h1 h2
      simp only [Option.some.injEq] at h; subst h
      cases j with
      | zero => simp at hj; subst hj; simpa using h1
      | succ j =>
        rw [List.getElem?_cons_succ] at hj
        simpa [List.getD_eq_getElem?_getD] using onlys_get h2 j x hj
    · cases h
theorem one1_spec {S : Nat → Nat → Prop} {w : World} {v u : Value} {x : D} (h : Rep S w v x) (ho : x.one1 = some u) : v = u := by
  cases h with
  | agg hl hr =>
    rename_i vs cs
    simp only [D.one1] at ho
    split at ho
    · rename_i l hL
      simp only [Option.some.injEq] at ho; subst ho
      congr 1
      have hlen := onlys_len hL
      apply Array.ext
      · simp; omega
      · intro i h1 h2
        have hi : i < cs.length := by omega
        have h3 := hr i _ (List.getElem?_eq_getElem hi)
        have h4 := only_spec h3 (onlys_get hL i _ (List.getElem?_eq_getElem hi))
        rw [Array.getD_eq_getD_getElem?, Array.getElem?_eq_getElem h1, List.getD_eq_getElem?_getD, List.getElem?_eq_getElem (by omega)] at h4
        simpa using h4
    · cases ho
  | int => simp only [D.one1, D.only, Option.some.injEq] at ho; exact ho
  | bool => simp only [D.one1, D.only, Option.some.injEq] at ho; exact ho
  | _ => simp [D.one1, D.only] at ho
theorem one1_rep {S : Nat → Nat → Prop} {w : World} {u : Value} {x : D} (ho : x.one1 = some u) : Rep S w u x := by
  cases x with
  | agg cs =>
    simp only [D.one1] at ho
    split at ho
    · rename_i l hL
      simp only [Option.some.injEq] at ho; subst ho
      refine .agg (by simpa using (onlys_len hL).symm) fun j c hj => ?_
      have h := only_rep (S := S) (w := w) (onlys_get hL j c hj)
      simpa [Array.getD_eq_getD_getElem?, List.getD_eq_getElem?_getD] using h
    · cases ho
  | _ => exact only_rep ho
def one1s : List D → Option (List Value)
  | [] => some []
  | x :: r => (match x.one1, one1s r with
    | some v, some l => some (v :: l)
    | _, _ => none)
theorem one1s_vals {S : Nat → Nat → Prop} {w : World} : ∀ {ds : List D} {us vals : List Value}, one1s ds = some us → vals.length = ds.length → (∀ (j : Nat) (x : D), ds[j]? = some x → Rep S w (vals.getD j undef) x) → vals = us
  | [], us, vals, h, hl, hr => by
    simp only [one1s, Option.some.injEq] at h; subst h
    exact List.eq_nil_of_length_eq_zero hl
  | x :: r, us, [], h, hl, hr => by simp at hl
  | x :: r, us, v :: vs, h, hl, hr => by
    simp only [one1s] at h
    split at h
    · rename_i u l h1 h2
      simp only [Option.some.injEq] at h; subst h
      have e1 := one1_spec (hr 0 x rfl) h1
      have e2 := one1s_vals (S := S) (w := w) (vals := vs) h2 (by simpa using hl) fun j y hj => by
        have := hr (j + 1) y (by simpa using hj)
        simpa [List.getD_eq_getElem?_getD] using this
      simp at e1
      rw [e1, e2]
    · cases h
/-- A call that the kit tells, of plain values, with a plain answer. -/
theorem Pu.ofCalls {f : FuncId} {ds : List D} {x : D} {us : List Value} {u : Value} (hcb : cbl P f = true) (h1 : one1s ds = some us) (h2 : x.one1 = some u)
    (h : ∀ w, Calls P f us.toArray w fun e w' => e = .returned u ∧ RowKit.Below w.heap.size w w') : Pu P f ds x :=
  Con.ofCalls hcb fun S w ρ τ vals hl hr hex => by
    have hr2 : ∀ (j : Nat) (y : D), ds[j]? = some y → Rep S w (vals.getD j undef) y := fun j y hj => by
      have := hr j (.d y) (by rw [List.getElem?_map, hj]; rfl)
      generalize vals.getD j undef = v at this
      cases this with
      | d h => exact h
    rw [one1s_vals h1 (by simpa using hl) hr2]
    exact (h w).mono fun e w' ⟨q1, q2⟩ => ⟨u, q1, q2, one1_rep h2⟩
theorem one1s_len : ∀ {l : List D} {us : List Value}, one1s l = some us → us.length = l.length
  | [], us, h => by simp only [one1s, Option.some.injEq] at h; subst h; rfl
  | x :: r, us, h => by
    simp only [one1s] at h
    split at h
    · rename_i v l h1 h2
      simp only [Option.some.injEq] at h; subst h
      simp [one1s_len h2]
    · cases h
theorem one1s_get : ∀ {l : List D} {us : List Value}, one1s l = some us → ∀ (j : Nat) (x : D), l[j]? = some x → x.one1 = some (us.getD j undef)
  | [], us, h, j, x, hj => by simp at hj
  | y :: r, us, h, j, x, hj => by
    simp only [one1s] at h
    split at h
    · rename_i v l h1 h2
      simp only [Option.some.injEq] at h; subst h
      cases j with
      | zero => simp at hj; subst hj; simpa using h1
      | succ j =>
        rw [List.getElem?_cons_succ] at hj
        simpa [List.getD_eq_getElem?_getD] using one1s_get h2 j x hj
    · cases h
/-- A call that the kit tells, of plain values, with several plain answers. -/
theorem Pu.ofCallsT {f : FuncId} {ds xs : List D} {us ys : List Value} (hcb : cbl P f = true) (h1 : one1s ds = some us) (h2 : one1s xs = some ys)
    (h : ∀ w, Calls P f us.toArray w fun e w' => e = .returned (.tuple ys.toArray) ∧ RowKit.Below w.heap.size w w') : Pu P f ds (.tup xs) :=
  Con.ofCalls hcb fun S w ρ τ vals hl hr hex => by
    have hr2 : ∀ (j : Nat) (y : D), ds[j]? = some y → Rep S w (vals.getD j undef) y := fun j y hj => by
      have := hr j (.d y) (by rw [List.getElem?_map, hj]; rfl)
      generalize vals.getD j undef = v at this
      cases this with
      | d h => exact h
    rw [one1s_vals h1 (by simpa using hl) hr2]
    refine (h w).mono fun e w' ⟨q1, q2⟩ => ⟨_, q1, q2, .tup (by simpa using (one1s_len h2).symm) fun j c hj => ?_⟩
    have h := one1_rep (S := fun b o => S b o ∨ (w.heap.size ≤ b ∧ (w'.cell? ⟨b, o, none⟩).isSome = true)) (w := w') (one1s_get h2 j c hj)
    simpa [Array.getD_eq_getD_getElem?, List.getD_eq_getElem?_getD] using h
end Go.Wl

/- Values and memory told without addresses: calls that work on memory of our own. -/
set_option linter.unusedVariables false
namespace Go.Wl
variable {P : Program}
/-- The answer is this, and this memory comes back. -/
abbrev isM (x : AV) (hp : Hp) : AV → Hp → Prop := fun r h => r = x ∧ h = hp
/-- What a function does with memory. -/
abbrev Mu (P : Program) (f : FuncId) (args : List AV) (hp : Hp) (x : AV) (hp' : Hp) : Prop := Con P f args hp (isM x hp')
/-- Arguments as a contract has them: data, where it is data. -/
def asAuto : List AV → Option (List AV)
  | [] => some []
  | .ptr n o :: r => (match asAuto r with
    | some l => some (.ptr n o :: l)
    | none => none)
  | .sl n xs :: r => (match asAuto r with
    | some l => some (.sl n xs :: l)
    | none => none)
  | .slc n o l c :: r => (match asAuto r with
    | some q => some (.slc n o l c :: q)
    | none => none)
  | .func a b c :: r => (match asAuto r with
    | some l => some (.func a b c :: l)
    | none => none)
  | x :: r => (match x.toD, asAuto r with
    | some d, some l => some (.d d :: l)
    | _, _ => none)
def autoM : List AV → List Bool
  | [] => []
  | .ptr _ _ :: r => false :: autoM r
  | .sl _ _ :: r => false :: autoM r
  | .slc _ _ _ _ :: r => false :: autoM r
  | .func _ _ _ :: r => false :: autoM r
  | _ :: r => true :: autoM r
theorem asAuto_spec : ∀ (l : List AV), asAuto l = asArgs (autoM l) l
  | [] => rfl
  | x :: r => by
    cases x <;> simp only [asAuto, autoM, asArgs, asAuto_spec r] <;> generalize asArgs (autoM r) r = q <;> cases q <;> first | rfl | (generalize AV.toD _ = z; cases z <;> rfl)
theorem Mu.ofWC {f : FuncId} {fn : Func} {cc : Cc} {args : List AV} {hp hp' : Hp} {x : AV} (hf : P.funcs[f]? = some fn) (hb : bodyC fn = cc) (hne : cc ≠ .bad) (hcb : cbl P f = true) {n : Nat} (hn : fn.ntmps = n) {rs : List ResultVar} (hrs : fn.results.toList = rs) (ns : List Nat) (hlen : args.length ≤ n)
    {K : List Nat} (hK : ∀ q, objNames hp = q → q = K) (hns : K.all (memb ns ·) = true) (h : WC P K cc { n := n, tm := numb 0 args, hp := hp } (retQ P rs ns (isM x hp'))) : Mu P f args hp x hp' := by
  subst hn; subst hrs
  have := hK _ rfl
  subst this
  exact Con.ofWC hf hb hne hcb hlen ns hns h
theorem mcall {K : List Nat} {d : Option Nat} {f : Operand} {args : Array Operand} {ats : Array TypeId} {r : List Sop} {s s' : St} {k : St → Prop} {id : FuncId} {first caps : List D} {args' : List AV} {hp0 H : Hp} {x : AV} (L : List Nat)
    (hf : s.ev f = .d (.func (.func id) first caps)) (ha : asAuto (first.map .d ++ args.toList.map s.ev ++ caps.map .d) = some args') (hh : hpSel L s.hp = hp0) (hC : Mu P id args' hp0 x H) (hok : afterOk s L d x H = true) (hs : s.after L d x H = s')
    (hk : WRs P K r s' k) : WRs P K (⟨d, .call { callee := .value f, args, argTypes := ats }, none⟩ :: r) s k := by
  refine RUN_call (first := first) (caps := caps) (autoM (first.map .d ++ args.toList.map s.ev ++ caps.map .d)) L (fun q hq => by rw [← hq]; exact hf) (fun q hq => by rw [← hq, ← asAuto_spec]; exact ha) (fun q hq => by rw [← hq]; exact hh) hC ?_
  rintro r' hp' ⟨rfl, rfl⟩
  exact ⟨hok, fun q hq => by rw [← hq, hs]; exact hk⟩
theorem RUN_mcall {K : List Nat} {d : Option Nat} {f : Operand} {args : Array Operand} {ats : Array TypeId} {r : List Sop} {s s' : St} {k : St → Prop} {id : FuncId} {first caps : List D} {args' : List AV} {hp0 H : Hp} {x : AV} (L : List Nat)
    (hf : ∀ q, s.ev f = q → q = .d (.func (.func id) first caps)) (ha : ∀ q, asAuto (first.map .d ++ args.toList.map s.ev ++ caps.map .d) = q → q = some args') (hh : ∀ q, hpSel L s.hp = q → q = hp0) (hC : Mu P id args' hp0 x H) (hok : ∀ q, afterOk s L d x H = q → q = true) (hs : ∀ q, s.after L d x H = q → q = s')
    (hk : WRs P K r s' k) : WRs P K (⟨d, .call { callee := .value f, args, argTypes := ats }, none⟩ :: r) s k := mcall L (hf _ rfl) (ha _ rfl) (hh _ rfl) hC (hok _ rfl) (hs _ rfl) hk
theorem RUND_mcall {K DD : List Nat} {m p : Bool} {d : Option Nat} {f : Operand} {args : Array Operand} {ats : Array TypeId} {r : List (Sop × Kd)} {s s' : St} {k : St → Prop} {id : FuncId} {first caps : List D} {args' : List AV} {hp0 H : Hp} {x : AV} (L : List Nat)
    (hf : ∀ q, s.ev f = q → q = .d (.func (.func id) first caps)) (ha : ∀ q, asAuto (first.map .d ++ args.toList.map s.ev ++ caps.map .d) = q → q = some args') (hh : ∀ q, hpSel L s.hp = q → q = hp0) (hC : Mu P id args' hp0 x H) (hok : ∀ q, afterOk s L d x H = q → q = true) (hs : ∀ q, s.after L d x H = q → q = s')
    (hD : ∀ q, sameOn DD s' s = q → q) (hH : (m && p) = true → s'.hp = s.hp) (hk : WDs P K (m && p) r s' k) : WDs P K m ((⟨d, .call { callee := .value f, args, argTypes := ats }, none⟩, .ch DD p) :: r) s k :=
  RUND_call (mcall L (hf _ rfl) (ha _ rfl) (hh _ rfl) hC (hok _ rfl) (hs _ rfl) ⟨hD _ rfl, hH, hk⟩)
end Go.Wl

