/- Values and memory told without addresses: contracts. -/
import Derived.Test.YthmiekppdhmbiaaWlG
import Derived.Below
set_option linter.unusedVariables false
set_option linter.unusedSimpArgs false
namespace Go.Wl
variable {P : Program}

/-- A contract: with these arguments, and this memory of ours, the call returns so. -/
def Con (P : Program) (f : FuncId) (args : List AV) (hp : Hp) (R : AV → Hp → Prop) : Prop :=
  cbl P f = true ∧ ∀ g (vals : List Value) w, vals.length = args.length → (∀ j x, args[j]? = some x → Rel g w (vals.getD j undef) x) → SimH g hp w →
    Calls P f vals.toArray w fun e w' => ∃ v r hp' g', e = .returned v ∧ R r hp' ∧ Rel g' w' v r ∧ SimH g' hp' w' ∧ Ev (Own g hp) (Own g' hp') g g' w w' ∧ Names g hp g' hp'
theorem Con.mono {f : FuncId} {args : List AV} {hp : Hp} {R R' : AV → Hp → Prop} (h : Con P f args hp R) (hr : ∀ r hp', R r hp' → R' r hp') : Con P f args hp R' :=
  ⟨h.1, fun g vals w h1 h2 h3 => (h.2 g vals w h1 h2 h3).mono fun e w' ⟨v, r, hp', g', q1, q2, q3⟩ => ⟨v, r, hp', g', q1, hr r hp' q2, q3⟩⟩

/-- Memory of some names. -/
def hpSel : List Nat → Hp → Hp
  | [], _ => []
  | n :: r, hp => match lk hp n with
    | some ob => (n, ob) :: hpSel r hp
    | none => hpSel r hp
def hpDel : List Nat → Hp → Hp
  | [], hp => hp
  | n :: r, hp => hpDel r (ldel hp n)
theorem lk_hpSel (L : List Nat) (hp : Hp) (n : Nat) : lk (hpSel L hp) n = if memb L n = true then lk hp n else none := by
  induction L with
  | nil => simp [hpSel, lk, memb]
  | cons m r ih =>
    unfold hpSel
    by_cases e : m = n
    · subst e
      have hm : memb (m :: r) m = true := (memb_iff _ _).2 List.mem_cons_self
      rw [hm, if_pos rfl]
      split
      · rename_i ob h; rw [lk_cons, if_pos rfl, h]
      · rename_i h; rw [ih, h]; simp
    · have hb : memb (m :: r) n = memb r n := by
        unfold memb
        cases hq : Nat.beq m n
        · cases r <;> rfl
        · exact absurd ((beq_iff m n).1 hq) e
      rw [hb]
      split
      · rw [lk_cons, if_neg e, ih]
      · rw [ih]
theorem lk_hpDel (L : List Nat) (hp : Hp) (n : Nat) : lk (hpDel L hp) n = if memb L n = true then none else lk hp n := by
  induction L generalizing hp with
  | nil => simp [hpDel, memb]
  | cons m r ih =>
    unfold hpDel
    rw [ih, lk_ldel]
    by_cases e : m = n
    · subst e
      have hm : memb (m :: r) m = true := (memb_iff _ _).2 List.mem_cons_self
      rw [hm]; simp
    · have hb : memb (m :: r) n = memb r n := by
        unfold memb
        cases hq : Nat.beq m n
        · cases r <;> rfl
        · exact absurd ((beq_iff m n).1 hq) e
      rw [hb, if_neg e]
def St.untags : List Nat → St → St
  | [], s => s
  | n :: r, s => St.untags r (s.untag n)
theorem untags_sim {g : G} {a : Act} {w : World} : ∀ (L : List Nat) {s : St}, Sim g s a w → Sim g (St.untags L s) a w ∧ (∀ b o, Own g (St.untags L s).hp b o ↔ Own g s.hp b o) ∧
    (∀ n, (∃ ob, lk (St.untags L s).hp n = some ob ∧ ∀ sz, ob ≠ .tail sz) ↔ (∃ ob, lk s.hp n = some ob ∧ ∀ sz, ob ≠ .tail sz)) ∧ (∀ n, lk (St.untags L s).hp n = none ↔ lk s.hp n = none) ∧ (St.untags L s).n = s.n
  | [], s, h => ⟨h, fun _ _ => Iff.rfl, fun _ => Iff.rfl, fun _ => Iff.rfl, rfl⟩
  | m :: r, s, h => by
    obtain ⟨h1, h2, h3, h4, h5⟩ := untags_sim r (h.untag m)
    have hlk : ∀ n, lk (s.untag m).hp n = (lk s.hp n).map (Ob.untag m) := fun n => lk_hpMap _ _ _
    refine ⟨h1, fun b o => (h2 b o).trans ((h.hp.untag m).2 b o), fun n => (h3 n).trans ?_, fun n => (h4 n).trans (by rw [hlk]; simp), h5⟩
    rw [hlk]
    cases hl : lk s.hp n with
    | none => simp
    | some ob => cases ob <;> simp [Ob.untag]
def hpAll (f : Nat → Bool) : Hp → Bool
  | [] => true
  | (k, _) :: r => f k && hpAll f r
theorem hpAll_spec {f : Nat → Bool} {hp : Hp} (h : hpAll f hp = true) {n : Nat} {ob : Ob} (hn : lk hp n = some ob) : f n = true := by
  induction hp with
  | nil => cases hn
  | cons p r ih =>
    obtain ⟨k, x⟩ := p
    simp only [hpAll, Bool.and_eq_true] at h
    rw [lk_cons] at hn
    split at hn
    · rename_i e; subst e; exact h.1
    · exact ih h.2 hn
def isObj (x : Option Ob) : Bool := match x with
  | some (.tail _) => false
  | some _ => true
  | none => false
theorem isObj_spec {x : Option Ob} (h : isObj x = true) : ∃ ob, x = some ob ∧ ∀ sz, ob ≠ .tail sz := by
  cases x with
  | none => cases h
  | some ob => cases ob with
    | tail sz => cases h
    | cells vs => exact ⟨.cells vs, rfl, fun sz => by simp⟩
    | iter a b => exact ⟨.iter a b, rfl, fun sz => by simp⟩
def app {α : Type} : List α → List α → List α
  | [], l => l
  | x :: r, l => x :: app r l
theorem lk_app {α : Type} (l m : List (Nat × α)) (n : Nat) : lk (app l m) n = match lk l n with | some x => some x | none => lk m n := by
  induction l with
  | nil => simp [app, lk]
  | cons p r ih =>
    obtain ⟨k, x⟩ := p
    simp only [app, lk_cons, ih]
    split <;> rfl
theorem refs_app {l m : Hp} {n : Nat} : n ∈ hpRefs l → n ∈ hpRefs (app l m) := by
  induction l with
  | nil => intro h; cases h
  | cons p r ih =>
    obtain ⟨k, x⟩ := p
    intro h
    simp only [app, hpRefs] at h ⊢
    exact (List.mem_append.1 h).elim (fun h => List.mem_append_left _ h) fun h => List.mem_append_right _ (ih h)

/-- Slots behind a call. -/
def tmOth (s : St) (dst : Option Tmp) : List (Nat × AV) := match dst with
  | some d => ldel s.tm d
  | none => s.tm
def St.after (s : St) (L : List Nat) (dst : Option Tmp) (r : AV) (hp' : Hp) : St :=
  { St.untags L s with tm := (match dst with
      | some d => lset (St.untags L s).tm d r
      | none => (St.untags L s).tm), hp := app hp' (hpDel L (St.untags L s).hp) }
/-- Whether what comes back can be taken in. -/
def afterOk (s : St) (L : List Nat) (dst : Option Tmp) (r : AV) (hp' : Hp) : Bool :=
  (match dst with
    | some d => ltb d s.n
    | none => true) &&
  hpAll (fun n => (match lk (hpDel L (St.untags L s).hp) n with
      | some _ => false
      | none => true) && (!(bif tmHas n (tmOth (St.untags L s) dst) then true else hpHas n (hpDel L (St.untags L s).hp)) || (memb L n && isObj (lk s.hp n)))) hp' &&
  (r.refs ++ hpRefs hp').all fun n => match lk hp' n with
      | some _ => true
      | none => false
/-- Arguments as data, where that is asked for. -/
def asArgs : List Bool → List AV → Option (List AV)
  | true :: m, x :: r => (match x.toD, asArgs m r with
    | some d, some l => some (.d d :: l)
    | _, _ => none)
  | false :: m, x :: r => (match asArgs m r with
    | some l => some (x :: l)
    | none => none)
  | [], r => some r
  | _ :: _, [] => some []
theorem asArgs_spec {g : G} {w : World} : ∀ {m : List Bool} {xs ys : List AV} {vals : List Value}, asArgs m xs = some ys → (∀ j x, xs[j]? = some x → Rel g w (vals.getD j undef) x) → ys.length = xs.length ∧ ∀ j y, ys[j]? = some y → Rel g w (vals.getD j undef) y
  | [], xs, ys, vals, h, hr => by
    simp only [asArgs, Option.some.injEq] at h; subst h; exact ⟨rfl, hr⟩
  | b :: m, [], ys, vals, h, hr => by
    cases b <;> simp only [asArgs, Option.some.injEq] at h <;> subst h <;> exact ⟨rfl, hr⟩
  | b :: m, x :: xs, ys, vals, h, hr => by
    have hshift : ∀ j, vals.tail.getD j undef = vals.getD (j + 1) undef := fun j => by simp [List.getD]
    cases b with
    | true =>
      simp only [asArgs] at h
      split at h
      · rename_i d l h1 h2
        simp only [Option.some.injEq] at h; subst h
        obtain ⟨e, hl⟩ := asArgs_spec (vals := vals.tail) h2 fun j y hj => by rw [hshift]; exact hr (j + 1) y (by simpa using hj)
        refine ⟨by simp [e], fun j y hj => ?_⟩
        cases j with
        | zero => simp at hj; subst hj; exact .d (toD_rep (hr 0 x rfl) h1)
        | succ j => rw [← hshift]; exact hl j y (by simpa using hj)
      · cases h
    | false =>
      simp only [asArgs] at h
      split at h
      · rename_i l h2
        simp only [Option.some.injEq] at h; subst h
        obtain ⟨e, hl⟩ := asArgs_spec (vals := vals.tail) h2 fun j y hj => by rw [hshift]; exact hr (j + 1) y (by simpa using hj)
        refine ⟨by simp [e], fun j y hj => ?_⟩
        cases j with
        | zero => simp at hj; subst hj; exact hr 0 _ rfl
        | succ j => rw [← hshift]; exact hl j y (by simpa using hj)
      · cases h

/-- A call by its contract: L: the names of the memory that is handed on. -/
theorem Call_con {K : List Nat} {dst : Option Tmp} {s : St} {f : FuncId} {args args' : List AV} {k : St → Prop} {R : AV → Hp → Prop} (m : List Bool) (L : List Nat) (ha : asArgs m args = some args')
    (hC : Con P f args' (hpSel L s.hp) R) (hR : ∀ r hp', R r hp' → afterOk s L dst r hp' = true ∧ k (s.after L dst r hp')) : Call P K dst s f args k := by
  refine ⟨hC.1, fun g vals w a next hl hrel hki hs hnext => ?_⟩
  obtain ⟨la, ra⟩ := asArgs_spec ha hrel
  obtain ⟨hsel, hselO⟩ := hs.hp.less (hp' := hpSel L s.hp) fun n ob hn => by
    rw [lk_hpSel] at hn
    split at hn
    · exact hn
    · cases hn
  refine (hC.2 g vals w (by omega) ra hsel).mono ?_
  rintro e w' ⟨v, r, hp', g', rfl, hRr, hrv, hH', hev, hnm⟩
  refine ⟨v, rfl, ?_⟩
  obtain ⟨hok, hk⟩ := hR r hp' hRr
  simp only [afterOk, Bool.and_eq_true] at hok
  obtain ⟨⟨hd, hall⟩, hcl⟩ := hok
  obtain ⟨hs1, hown1, hobj1, hnone1, hn1⟩ := untags_sim L hs
  generalize hS1 : St.untags L s = s1 at *
  have hcl' : ∀ n, n ∈ r.refs ∨ n ∈ hpRefs hp' → ∃ ob, lk hp' n = some ob := fun n hn => by
    have := List.all_eq_true.1 hcl n (List.mem_append.2 hn)
    cases hq : lk hp' n with
    | none => rw [hq] at this; cases this
    | some ob => exact ⟨ob, rfl⟩
  have hF : ∀ n ob, lk hp' n = some ob → lk (hpDel L s1.hp) n = none ∧ (n ∈ tmRefs (tmOth s1 dst) ++ hpRefs (hpDel L s1.hp) → memb L n = true ∧ ∃ ob0, lk s.hp n = some ob0 ∧ ∀ sz, ob0 ≠ .tail sz) := fun n ob hn => by
    have := hpAll_spec hall hn
    simp only [Bool.and_eq_true, Bool.or_eq_true, Bool.not_eq_true'] at this
    refine ⟨?_, fun hm => ?_⟩
    · have h1 := this.1
      split at h1
      · cases h1
      · assumption
    · rcases this.2 with h2 | h2
      · obtain ⟨n1, n2⟩ := noref h2
        exact absurd hm fun hm => (List.mem_append.1 hm).elim n1 n2
      · exact ⟨h2.1, isObj_spec h2.2⟩
  -- what names stand for behind the call
  let g2 : G := { S := g'.S, ρ := fun n => if (lk hp' n).isSome then g'.ρ n else g.ρ n, τ := fun n => if (lk hp' n).isSome then g'.τ n else g.τ n }
  have hg2in : ∀ n ob, lk hp' n = some ob → g2.ρ n = g'.ρ n ∧ g2.τ n = g'.τ n := fun n ob hn => by simp [g2, hn]
  have hg2out : ∀ n, lk hp' n = none → g2.ρ n = g.ρ n ∧ g2.τ n = g.τ n := fun n hn => by simp [g2, hn]
  have hoth : ∀ n, n ∈ tmRefs (tmOth s1 dst) ++ hpRefs (hpDel L s1.hp) → g2.ρ n = g.ρ n ∧ g2.τ n = g.τ n := fun n hn => by
    cases hq : lk hp' n with
    | none => exact hg2out n hq
    | some ob =>
      obtain ⟨hL, ob0, h0, ht⟩ := (hF n ob hq).2 hn
      have h1 := (hnm n ob0 (by rw [lk_hpSel, if_pos hL]; exact h0) ht).1
      have h2 := hg2in n ob hq
      exact ⟨h2.1.trans h1.1, h2.2.trans h1.2⟩
  have hS : ∀ b o, g.S b o → g2.S b o := hev.S1
  have hcell : ∀ b o, g.S b o → w'.cell? ⟨b, o, none⟩ = w.cell? ⟨b, o, none⟩ := fun b o hb => hev.sealed hsel b o hb
  have hdel : ∀ n ob, lk (hpDel L s1.hp) n = some ob → lk s1.hp n = some ob ∧ memb L n = false := fun n ob hn => by
    rw [lk_hpDel] at hn
    cases hc : memb L n
    · rw [hc] at hn; exact ⟨by simpa using hn, rfl⟩
    · rw [hc] at hn; simp at hn
  have hoSel : ∀ b o, Own g (hpSel L s.hp) b o → ∀ n ob, lk (hpDel L s1.hp) n = some ob → ¬ ownO g n ob b o := by
    rintro b o ⟨m', ob', hm', ho'⟩ n ob hn ho
    obtain ⟨h1, h2⟩ := hdel n ob hn
    rw [lk_hpSel] at hm'
    split at hm'
    · rename_i hL
      have hne : m' ≠ n := fun e => by subst e; rw [hL] at h2; cases h2
      have hx : ∃ ob1, lk s1.hp m' = some ob1 ∧ ownO g m' ob1 b o := by
        have : Own g [(m', ob')] b o := ⟨m', ob', by simp [lk], ho'⟩
        cases hq : lk s1.hp m' with
        | none => rw [(hnone1 m').1 hq] at hm'; cases hm'
        | some ob1 =>
          refine ⟨ob1, rfl, ?_⟩
          cases ob' with
          | tail sz =>
            cases ob1 with
            | tail sz1 => exact ho'
            | cells vs =>
              obtain ⟨q1, q2, q3⟩ := (hobj1 m').1 ⟨_, hq, by simp⟩
              rw [hm'] at q2; simp only [Option.some.injEq] at q2; subst q2; exact absurd rfl (q3 sz)
            | iter a b =>
              obtain ⟨q1, q2, q3⟩ := (hobj1 m').1 ⟨_, hq, by simp⟩
              rw [hm'] at q2; simp only [Option.some.injEq] at q2; subst q2; exact absurd rfl (q3 sz)
          | cells vs =>
            cases ob1 with
            | tail sz1 =>
              obtain ⟨q1, q2, q3⟩ := (hobj1 m').2 ⟨_, hm', by simp⟩
              rw [hq] at q2; simp only [Option.some.injEq] at q2; subst q2; exact absurd rfl (q3 sz1)
            | cells vs => exact ho'
            | iter a b => exact ho'
          | iter a c =>
            cases ob1 with
            | tail sz1 =>
              obtain ⟨q1, q2, q3⟩ := (hobj1 m').2 ⟨_, hm', by simp⟩
              rw [hq] at q2; simp only [Option.some.injEq] at q2; subst q2; exact absurd rfl (q3 sz1)
            | cells vs => exact ho'
            | iter a b => exact ho'
      obtain ⟨ob1, q1, q2⟩ := hx
      exact hs1.hp.dis m' n ob1 ob q1 h1 hne b o q2 ho
    · cases hm'
  have hltF : ∀ n ob b o, lk (hpDel L s1.hp) n = some ob → ownO g n ob b o → b < w.heap.size := fun n ob b o hn ho => own_lt hs1.hp (hdel n ob hn).1 ho
  have hsameF : ∀ n ob, lk (hpDel L s1.hp) n = some ob → g2.ρ n = g.ρ n ∧ g2.τ n = g.τ n := fun n ob hn => by
    cases hq : lk hp' n with
    | none => exact hg2out n hq
    | some ob' => rw [(hF n ob' hq).1] at hn; cases hn
  have hH : SimH g2 (app hp' (hpDel L s1.hp)) w' := by
    refine ⟨fun n ob hn => ?_, fun b o hb => ?_, fun n n' ob pb h1 h2 hne b o ho1 ho2 => ?_, hH'.ex⟩
    · rw [lk_app] at hn
      split at hn
      · rename_i ob' hq
        simp only [Option.some.injEq] at hn; subst hn
        exact ObRel.mono (g := g') (w := w') (h := hH'.ob n ob' hq) (fun _ _ hs => hs) (fun _ _ _ => rfl) (hg2in n ob' hq) (fun m hm => by
          obtain ⟨ob'', h1⟩ := hcl' m (.inr (hpRefs_mem hq hm)); exact hg2in m ob'' h1) fun _ _ => rfl
      · have h1 := hdel n ob hn
        have h0 := hs1.hp.ob n ob h1.1
        have hrefs : ∀ m ∈ ob.refs, g2.ρ m = g.ρ m ∧ g2.τ m = g.τ m := fun m hm => hoth m (List.mem_append_right _ (hpRefs_mem hn hm))
        have hblk : ∀ b, (∃ o, ownO g n ob b o) → (∀ sz, ob ≠ .tail sz) → w'.heap[b]? = w.heap[b]? := fun b ⟨o, ho⟩ ht => hev.blk b (hltF n ob b o hn ho) fun f hf => hoSel b f hf n ob hn (by
          cases ob with
          | tail sz => exact absurd rfl (ht sz)
          | cells vs => exact ho
          | iter a c => exact ho)
        cases ob with
        | tail sz =>
          obtain ⟨a1, a0, a2⟩ := h0
          refine ⟨by rw [(hsameF n _ hn).2]; exact a1, a0, ?_⟩
          rw [(hsameF n _ hn).2]
          intro hroom
          obtain ⟨c1, e1, fr1, b1, b2, b3⟩ := a2 hroom
          obtain ⟨c2, q1, q2⟩ := hev.shp _ c1 e1 fr1 b1
          exact ⟨c2, e1, fr1, q1, by rw [q2]; exact b2, by rw [q2]; exact b3⟩
        | cells vs => exact ObRel.mono (g := g) (w := w) (h := h0) hS hcell (hsameF n _ hn) hrefs fun b hb => hblk b hb (by simp)
        | iter a c => exact ObRel.mono (g := g) (w := w) (h := h0) hS hcell (hsameF n _ hn) hrefs fun b hb => hblk b hb (by simp)
    · rintro ⟨n, ob, hn, ho⟩
      rw [lk_app] at hn
      split at hn
      · rename_i ob' hq
        simp only [Option.some.injEq] at hn; subst hn
        exact hH'.sep b o hb ⟨n, ob', hq, (own_same (hg2in n ob' hq) b o).1 ho⟩
      · have ho' := (own_same (hsameF n ob hn) b o).1 ho
        rcases hev.S2 b o hb with h1 | h1 | h1
        · exact hs1.hp.sep b o h1 ⟨n, ob, (hdel n ob hn).1, ho'⟩
        · exact hoSel b o h1 n ob hn ho'
        · have := hltF n ob b o hn ho'; omega
    · rw [lk_app] at h1 h2
      split at h1
      · rename_i ob1 q1
        simp only [Option.some.injEq] at h1; subst h1
        have ho1' := (own_same (hg2in n ob1 q1) b o).1 ho1
        split at h2
        · rename_i ob2 q2
          simp only [Option.some.injEq] at h2; subst h2
          exact hH'.dis n n' ob1 ob2 q1 q2 hne b o ho1' ((own_same (hg2in n' ob2 q2) b o).1 ho2)
        · have ho2' := (own_same (hsameF n' pb h2) b o).1 ho2
          rcases hev.o2 b o ⟨n, ob1, q1, ho1'⟩ with h3 | h3
          · exact hoSel b o h3 n' pb h2 ho2'
          · have := hltF n' pb b o h2 ho2'; omega
      · have ho1' := (own_same (hsameF n ob h1) b o).1 ho1
        split at h2
        · rename_i ob2 q2
          simp only [Option.some.injEq] at h2; subst h2
          have ho2' := (own_same (hg2in n' ob2 q2) b o).1 ho2
          rcases hev.o2 b o ⟨n', ob2, q2, ho2'⟩ with h3 | h3
          · exact hoSel b o h3 n ob h1 ho1'
          · have := hltF n ob b o h1 ho1'; omega
        · exact hs1.hp.dis n n' ob pb (hdel n ob h1).1 (hdel n' pb h2).1 hne b o ho1' ((own_same (hsameF n' pb h2) b o).1 ho2)
  have hrv2 : Rel g2 w' v r := Rel.mono (g := g') (g' := g2) (w := w') (fun _ _ hs => hs) (fun _ _ _ => rfl) hrv fun n hn => by
    obtain ⟨ob, h1⟩ := hcl' n (.inl hn); exact hg2in n ob h1
  have hsim : Sim g2 (s.after L dst r hp') (a.put dst v) w' := by
    unfold St.after
    rw [hS1]
    cases dst with
    | none =>
      refine ⟨hs1.n, hs1.df, fun i => ?_, hH⟩
      exact (hs1.tm i).mono hS hcell fun n hn => hoth n (List.mem_append_left _ (get_refs hn))
    | some d =>
      have hd' : d < s1.n := by rw [hn1]; exact Nat.le_of_ble_eq_true hd
      exact hs1.upd (g' := g2) d hd' hS hcell (fun i hi n hn => hoth n (List.mem_append_left _ (refs_ldel hi hn))) hrv2 hH
  have hownOut : ∀ b o, Own g2 (app hp' (hpDel L s1.hp)) b o → Own g s.hp b o ∨ w.heap.size ≤ b := by
    rintro b o ⟨n, ob, hn, ho⟩
    rw [lk_app] at hn
    split at hn
    · rename_i ob' hq
      simp only [Option.some.injEq] at hn; subst hn
      rcases hev.o2 b o ⟨n, ob', hq, (own_same (hg2in n ob' hq) b o).1 ho⟩ with h1 | h1
      · exact .inl (hselO b o h1)
      · exact .inr h1
    · exact .inl ((hown1 b o).1 ⟨n, ob, (hdel n ob hn).1, (own_same (hsameF n ob hn) b o).1 ho⟩)
  refine hnext _ g2 _ w' hsim ⟨?_, fun n hn => ?_, fun n hn => ?_⟩ hk
  · have hE : Ev (Own g s.hp) (Own g2 (app hp' (hpDel L s1.hp))) g g2 w w' := ⟨hev.os, hev.tape, hev.output, hev.size, fun b hb hf => hev.blk b hb fun f h1 => hf f (hselO b f h1), fun b f hb hf => hev.cell b f hb fun h1 => hf (hselO b f h1), hev.shp, hS,
      fun b f hb => (hev.S2 b f hb).elim .inl fun h => h.elim (fun h => .inr (.inl (hselO b f h))) fun h => .inr (.inr h), hownOut⟩
    unfold St.after
    rw [hS1]
    exact hE
  · obtain ⟨ob, h1, h2⟩ := hki n hn
    cases hc : memb L n
    · obtain ⟨ob1, q1, q2⟩ := (hobj1 n).2 ⟨ob, h1, h2⟩
      exact hsameF n ob1 (by rw [lk_hpDel, hc]; simpa using q1)
    · obtain ⟨q1, ob', q2, q3⟩ := hnm n ob (by rw [lk_hpSel, if_pos hc]; exact h1) h2
      have := hg2in n ob' q2
      exact ⟨this.1.trans q1.1, this.2.trans q1.2⟩
  · obtain ⟨ob, h1, h2⟩ := hki n hn
    unfold St.after
    rw [hS1]
    simp only [lk_app]
    cases hc : memb L n
    · obtain ⟨ob1, q1, q2⟩ := (hobj1 n).2 ⟨ob, h1, h2⟩
      cases hq : lk hp' n with
      | none => exact ⟨ob1, by rw [lk_hpDel, hc]; simpa using q1, q2⟩
      | some ob' =>
        have := (hF n ob' hq).1
        rw [lk_hpDel, hc] at this
        simp only [Bool.false_eq_true, if_false] at this
        rw [this] at q1; cases q1
    · obtain ⟨q1, ob', q2, q3⟩ := hnm n ob (by rw [lk_hpSel, if_pos hc]; exact h1) h2
      exact ⟨ob', by rw [q2], q3⟩
end Go.Wl

