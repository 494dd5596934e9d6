/- Values and memory told without addresses: which order one walks in. -/
import Derived.Test.YthmiekppdhmbiaaWlN
set_option linter.unusedVariables false
set_option linter.unusedSimpArgs false
namespace Go.Wl
variable {P : Program}

structure Inf where
  lo : List Nat
  pr : List Nat
  ds : Option Nat
  pu : Bool
def inf (ops : Array Oper) (o : Oper) : Inf := ⟨o.looksAt ops, pre o, o.dst, isPure o.op⟩
def ia (l : List Inf) (i : Nat) : Inf := match l[i]? with
  | some x => x
  | none => ⟨[], [], none, true⟩
def ins (l : List Nat) (x : Nat) : List Nat := bif memb l x then l else x :: l
def un (l m : List Nat) : List Nat := m.foldl ins l
def ancOf (acc : List (List Nat)) (pr : List Nat) : List Nat := pr.foldl (fun l j => un (ins l j) (match acc[j]? with | some m => m | none => [])) []
def ancTab (l : List Inf) : List (List Nat) := l.foldl (fun acc x => acc ++ [ancOf acc x.pr]) []
def anc (tab : List (List Nat)) (i : Nat) : List Nat := match tab[i]? with
  | some m => m
  | none => []
def pick1 (pu : Bool) (done : List Nat) : List (Nat × Inf) → Option Nat
  | [] => none
  | (i, x) :: r => bif (bif pu then x.pu else !x.pu) && !memb done i && x.pr.all (memb done) then some i else pick1 pu done r
def asap (l : List (Nat × Inf)) : Nat → List Nat → List Nat
  | 0, _ => []
  | f + 1, done => match pick1 true done l with
    | some i => i :: asap l f (i :: done)
    | none => (match pick1 false done l with
      | some i => i :: asap l f (i :: done)
      | none => [])
def mkKd (l : List Inf) (tab : List (List Nat)) : List Nat → List Nat → List (Nat × Kd)
  | _, [] => []
  | V, i :: r => (i, bif (ia l i).pu then (bif r.any (fun c => !(ia l c).pu && !memb (anc tab c) i) then .la [] else .pu) else .ch ((V.filter fun j => (ia l j).pu && !memb (anc tab i) j).filterMap fun j => (ia l j).ds) (V.any fun j => (ia l j).pu && !memb (anc tab i) j)) :: mkKd l tab (i :: V) r
def memV (V : List (Nat × Kd)) (i : Nat) : Bool := V.any fun p => Nat.beq p.1 i
def chB : Kd → Bool
  | .ch _ _ => true
  | _ => false
def laB : Kd → Bool
  | .la _ => true
  | _ => false
def chkB (l : List Inf) (tab : List (List Nat)) : List (Nat × Kd) → List (Nat × Kd) → Bool
  | V, [] => (List.range l.length).all (memV V)
  | V, (i, kd) :: r => !memV V i && (ia l i).pr.all (memV V) && (match kd with
    | .ch D pp => ((List.range l.length).all fun j => memV V j || Nat.beq j i || (ia l j).pr.any (fun p => !memV V p) || memb (anc tab j) i) && V.all fun p => chB p.2 || memb (anc tab i) p.1 || (pp && laB p.2 && match (ia l p.1).ds with
        | some d => memb D d
        | none => true)
    | _ => true) && chkB l tab ((i, kd) :: V) r
def gdB (l : List Inf) : Bool := (List.range l.length).all fun i => (ia l i).pr.all (fun p => Nat.blt p i) && (List.range l.length).all fun j => (match (ia l j).ds with
  | some t => (bif memb (ia l i).lo t then !(Nat.beq i j) && (memb (ia l i).pr j || memb (ia l j).pr i) else true) && (Nat.beq i j || match (ia l i).ds with
    | some t' => !(Nat.beq t' t)
    | none => true)
  | none => true)
def itemsS (ops : Array Oper) : List (Nat × Kd) → Option (List (Sop × Kd))
  | [] => some []
  | (i, kd) :: r => (match ops[i]? with
    | some o => (match copS ops [o], itemsS ops r with
      | some [x], some l => some ((x, match kd with
        | .la _ => .la (o.looksAt ops)
        | kd => kd) :: l)
      | _, _ => none)
    | none => none)
def enum {α : Type} : Nat → List α → List (Nat × α)
  | _, [] => []
  | n, x :: r => (n, x) :: enum (n + 1) r
def items (ops : Array Oper) : Option (List (Nat × Kd)) :=
  let l := ops.toList.map (inf ops)
  let tab := ancTab l
  let r := mkKd l tab [] (asap (enum 0 l) l.length [])
  bif Region.noSelect ops && gdB l && chkB l tab [] r then some r else none
def copD (ops : Array Oper) : Option (List (Sop × Kd)) := match items ops with
  | some r => itemsS ops r
  | none => none

theorem ia_spec {ops : Array Oper} {i : Nat} {o : Oper} (h : ops[i]? = some o) : ia (ops.toList.map (inf ops)) i = inf ops o := by
  unfold ia
  simp [h]
theorem mem_ins {l : List Nat} {x y : Nat} (h : y ∈ ins l x) : y ∈ l ∨ y = x := by
  unfold ins at h
  cases hm : memb l x
  · rw [hm] at h
    simp only [cond_false] at h
    rcases List.mem_cons.1 h with h | h
    · exact .inr h
    · exact .inl h
  · rw [hm] at h; exact .inl h
theorem mem_un {m : List Nat} : ∀ {l : List Nat} {y : Nat}, y ∈ un l m → y ∈ l ∨ y ∈ m := by
  induction m with
  | nil => exact fun h => .inl h
  | cons x r ih =>
    intro l y h
    rcases ih (l := ins l x) h with h | h
    · rcases mem_ins h with h | h
      · exact .inl h
      · exact .inr (h ▸ List.mem_cons_self)
    · exact .inr (List.mem_cons_of_mem _ h)
theorem mem_ancOf {acc : List (List Nat)} {pr : List Nat} : ∀ {l : List Nat} {y : Nat}, y ∈ pr.foldl (fun l j => un (ins l j) (match acc[j]? with | some m => m | none => [])) l → y ∈ l ∨ ∃ j ∈ pr, y = j ∨ y ∈ anc acc j := by
  induction pr with
  | nil => exact fun h => .inl h
  | cons j r ih =>
    intro l y h
    rcases ih h with h | ⟨j', h1, h2⟩
    · rcases mem_un h with h | h
      · rcases mem_ins h with h | h
        · exact .inl h
        · exact .inr ⟨j, List.mem_cons_self, .inl h⟩
      · exact .inr ⟨j, List.mem_cons_self, .inr h⟩
    · exact .inr ⟨j', List.mem_cons_of_mem _ h1, h2⟩
theorem ancTab_spec {ops : Array Oper} : ∀ (r : List Inf) (acc : List (List Nat)), (∀ k, r[k]? = (ops.toList.map (inf ops))[acc.length + k]?) → (∀ i y, y ∈ anc acc i → Anc ops y i) →
    ∀ i y, y ∈ anc (r.foldl (fun acc x => acc ++ [ancOf acc x.pr]) acc) i → Anc ops y i := by
  intro r
  induction r with
  | nil => exact fun acc _ h => h
  | cons x r ih =>
    intro acc hl h
    refine ih (acc ++ [ancOf acc x.pr]) (fun k => ?_) ?_
    · have := hl (k + 1)
      rw [List.getElem?_cons_succ] at this
      rw [this, List.length_append, List.length_singleton]
      congr 1; omega
    · intro i y hy
      unfold anc at hy
      split at hy
      · rename_i m hm
        rw [List.getElem?_append] at hm
        split at hm
        · exact h i y (by unfold anc; rw [hm]; exact hy)
        · rename_i hi
          have he : i = acc.length := by
            have := (List.getElem?_eq_some_iff.1 hm).1
            simp at this; omega
          subst he
          simp only [Nat.sub_self, List.getElem?_cons_zero, Option.some.injEq] at hm
          subst hm
          have h0 := hl 0
          simp only [List.getElem?_cons_zero, Nat.add_zero, List.getElem?_map, Array.getElem?_toList] at h0
          obtain ⟨o, ho, e⟩ := Option.map_eq_some_iff.1 h0.symm
          have hx : x.pr = pre o := by rw [← e]; rfl
          rcases mem_ancOf hy with h1 | ⟨j, h1, h2⟩
          · cases h1
          · rw [hx] at h1
            rcases h2 with rfl | h2
            · exact .base ho h1
            · exact .step ho h1 (h j y h2)
      · cases hy
theorem memV_spec {V : List (Nat × Kd)} {i : Nat} : memV V i = true ↔ inV V i := by
  unfold memV inV
  simp only [List.any_eq_true]
  constructor
  · rintro ⟨⟨j, kd⟩, h1, h2⟩
    exact ⟨kd, by rw [← Nat.eq_of_beq_eq_true h2]; exact h1⟩
  · rintro ⟨kd, h⟩
    exact ⟨(i, kd), h, by simp⟩
theorem memV_f {V : List (Nat × Kd)} {i : Nat} : memV V i = false ↔ ¬ inV V i := by
  rw [← memV_spec]; simp
theorem chkB_spec {ops : Array Oper} {tab : List (List Nat)} (ht : ∀ i y, y ∈ anc tab i → Anc ops y i) : ∀ (r V : List (Nat × Kd)), (∀ i kd, (i, kd) ∈ r → i < ops.size) → (∀ i kd, (i, kd) ∈ V → i < ops.size) → chkB (ops.toList.map (inf ops)) tab V r = true → Chk ops V r
  | [], V, _, _, h => fun i hi => by
    simp only [chkB, List.all_eq_true, List.length_map, List.mem_range] at h
    exact memV_spec.1 (h i (by simpa using hi))
  | (i, kd) :: r, V, hr, hV, h => by
    have hi := hr i kd List.mem_cons_self
    have ho : ops[i]? = some ops[i] := Array.getElem?_eq_getElem hi
    simp only [chkB, Bool.and_eq_true, Bool.not_eq_true'] at h
    obtain ⟨⟨⟨h1, h2⟩, h3⟩, h4⟩ := h
    refine ⟨memV_f.1 h1, fun o ho' p hp => ?_, chkB_spec ht r _ (fun j kd' hj => hr j kd' (List.mem_cons_of_mem _ hj)) (fun j kd' hj => ?_) h4, ?_⟩
    · rw [ia_spec ho', List.all_eq_true] at h2
      exact memV_spec.1 (h2 p hp)
    · rcases List.mem_cons.1 hj with e | hj
      · cases e; exact hi
      · exact hV j kd' hj
    · cases kd with
      | ch D pp =>
        simp only [Bool.and_eq_true, List.all_eq_true, List.length_map, List.mem_range, Array.length_toList] at h3
        obtain ⟨q1, q2⟩ := h3
        refine ⟨fun j hj hjv hji => ?_, fun j kd hj hkd => ?_⟩
        · have hoj : ops[j]? = some ops[j] := Array.getElem?_eq_getElem hj
          have := q1 j hj
          rw [ia_spec hoj] at this
          simp only [Bool.or_eq_true, List.any_eq_true, Bool.not_eq_true'] at this
          rcases this with ((h | h) | ⟨p, h, h'⟩) | h
          · exact absurd (memV_spec.1 h) hjv
          · exact absurd (Nat.eq_of_beq_eq_true h) hji
          · exact .inl ⟨_, hoj, p, h, memV_f.1 h'⟩
          · exact .inr (ht j i ((memb_iff _ _).1 h))
        · have := q2 (j, kd) hj
          simp only [Bool.or_eq_true, Bool.and_eq_true] at this
          rcases this with (h | h) | ⟨⟨hp, h⟩, h'⟩
          · cases kd <;> first | exact absurd trivial hkd | cases h
          · exact .inl (ht i j ((memb_iff _ _).1 h))
          · refine .inr ⟨hp, (by cases kd <;> first | exact ⟨_, rfl⟩ | cases h), fun o d ho' hd => ?_⟩
            rw [ia_spec ho'] at h'
            simp only [inf, hd] at h'
            exact (memb_iff _ _).1 h'
      | _ => trivial
theorem gdB_spec {ops : Array Oper} (hs : Region.noSelect ops = true) (h : gdB (ops.toList.map (inf ops)) = true) : Gd ops := by
  simp only [gdB, List.all_eq_true, Bool.and_eq_true, List.length_map, List.mem_range, Array.length_toList] at h
  refine ⟨fun i o ho p hp => ?_, fun i o j o' ho ho' hne hd he => ?_, fun i o j o' t ho ho' ht hd => ?_, fun i o ho cs b => Region.noSelect_spec hs i o cs b ho⟩
  · have := (h i (lt_of_some ho)).1 p (by rw [ia_spec ho]; exact hp)
    exact Nat.le_of_ble_eq_true this
  · have := (h i (lt_of_some ho)).2 j (lt_of_some ho')
    rw [ia_spec ho, ia_spec ho'] at this
    cases hd' : o'.dst with
    | none => rw [hd'] at he; exact hd he
    | some t =>
      rw [hd'] at he
      simp only [inf, hd', he, Bool.and_eq_true, Bool.or_eq_true, Bool.not_eq_true'] at this
      rcases this.2 with e | e
      · exact hne (Nat.eq_of_beq_eq_true e)
      · simp at e
  · have := (h i (lt_of_some ho)).2 j (lt_of_some ho')
    rw [ia_spec ho, ia_spec ho'] at this
    simp only [inf, hd, Bool.and_eq_true] at this
    have h1 := this.1
    rw [(memb_iff _ _).2 ht] at h1
    simp only [cond_true, Bool.and_eq_true, Bool.or_eq_true, Bool.not_eq_true', memb_iff] at h1
    refine ⟨fun e => ?_, h1.2⟩
    subst e
    simp at h1
theorem items_lt {ops : Array Oper} : ∀ {r : List (Nat × Kd)} {l : List (Sop × Kd)}, itemsS ops r = some l → ∀ i kd, (i, kd) ∈ r → i < ops.size
  | [], l, h, i, kd, hm => by cases hm
  | (j, kj) :: r, l, h, i, kd, hm => by
    simp only [itemsS] at h
    split at h
    · rename_i o ho
      split at h
      · rename_i x l' h1 h2
        rcases List.mem_cons.1 hm with e | hm
        · cases e; exact lt_of_some ho
        · exact items_lt h2 i kd hm
      · cases h
    · cases h
theorem copD_spec {ops : Array Oper} {l : List (Sop × Kd)} (h : copD ops = some l) : Gd ops ∧ ∃ r, Chk ops [] r ∧ itemsS ops r = some l := by
  unfold copD at h
  split at h
  · rename_i r hr
    unfold items at hr
    dsimp only at hr
    generalize hB : (Region.noSelect ops && gdB (ops.toList.map (inf ops)) && chkB (ops.toList.map (inf ops)) (ancTab (ops.toList.map (inf ops))) [] _) = B at hr
    cases B with
    | false => cases hr
    | true =>
      simp only [cond_true, Option.some.injEq] at hr
      simp only [Bool.and_eq_true] at hB
      rw [hr] at hB
      exact ⟨gdB_spec hB.1.1 hB.1.2, r, chkB_spec (fun i y hy => ancTab_spec _ [] (fun k => by simp) (fun i y hy => by simp [anc] at hy) i y hy) r [] (items_lt h) (fun _ _ h => by cases h) hB.2, h⟩
  · cases h

/-- The operations, told briefly. -/
def sameOn : List Nat → St → St → Prop
  | [], _, _ => True
  | t :: r, s', s => s'.get t = s.get t ∧ sameOn r s' s
theorem sameOn_spec {D : List Nat} {s' s : St} (h : sameOn D s' s) : ∀ t ∈ D, s'.get t = s.get t := by
  induction D with
  | nil => simp
  | cons t r ih =>
    intro x hx
    rcases List.mem_cons.1 hx with rfl | hx
    · exact h.1
    · exact ih h.2 x hx
def laOK (K : List Nat) (s : St) (ls : List Nat) : Bool := ls.all fun t => ((s.get t).refs).all (memb K)
def aopD (P : Program) (d : Option Nat) (op : Op) (s0 s : St) : Option St := ob (aval P op s0) (s.setv d)
def pureS (P : Program) (o : Sop) (s0 s : St) (k : St → Prop) : Prop := match o.g with
  | none => opt (aopD P o.d o.op s0 s) k
  | some (t, w) => gdOf (gdv (s.get t) w) fun b => (b = true → opt (aopD P o.d o.op s0 s) k) ∧ (b = false → opt (s.setv o.d und) k)
def WDs (P : Program) (K : List Nat) : Bool → List (Sop × Kd) → St → (St → Prop) → Prop
  | _, [], s, k => k s
  | m, (o, .ch D p) :: r, s, k => WRs P K [o] s fun s' => sameOn D s' s ∧ ((m && p) = true → s'.hp = s.hp) ∧ WDs P K (m && p) r s' k
  | m, (o, .pu) :: r, s, k => pureS P o s s fun s' => WDs P K m r s' k
  | m, (o, .la ls) :: r, s, k => laOK K s ls = true ∧ ∃ e : Bool, pureS P o { s with hp := bif e then s.hp else [] } s fun s' => WDs P K (m || e) r s' k

theorem copS_one {ops : Array Oper} {o : Oper} {x : Sop} (h : copS ops [o] = some [x]) : x.d = o.dst ∧ x.op = o.op ∧ match x.g with
    | none => o.guard = none
    | some (t, w) => ∃ j, o.guard = some (j, w) ∧ (ops[j]?).bind (·.dst) = some t := by
  simp only [copS] at h
  split at h
  · rename_i l h1 h2
    simp only [Option.some.injEq] at h2; subst h2
    simp only [Option.some.injEq, List.cons.injEq, and_true] at h; subst h
    exact ⟨rfl, rfl, h1⟩
  · rename_i j w l h1 h2
    split at h
    · rename_i t ht
      simp only [Option.some.injEq] at h2; subst h2
      simp only [Option.some.injEq, List.cons.injEq, and_true] at h; subst h
      exact ⟨rfl, rfl, j, h1, ht⟩
    · cases h
  · cases h
theorem pureS_redo {ops : Array Oper} {o : Oper} {x : Sop} (hx : copS ops [o] = some [x]) {s : St} {hp : Hp} {k : St → Prop} (h : pureS P x { s with hp := hp } s k) : ∃ v s', Redo P ops o { s with hp := hp } v ∧ s.setv o.dst v = some s' ∧ k s' := by
  obtain ⟨e1, e2, e3⟩ := copS_one hx
  have hD : opt (aopD P x.d x.op { s with hp := hp } s) k → ∃ v s', aval P o.op { s with hp := hp } = some v ∧ s.setv o.dst v = some s' ∧ k s' := fun h => by
    unfold aopD at h
    rw [e1, e2] at h
    cases ha : aval P o.op { s with hp := hp } with
    | none => rw [ha] at h; exact h.elim
    | some v =>
      rw [ha] at h
      simp only [ob] at h
      cases hb : s.setv o.dst v with
      | none => rw [hb] at h; exact h.elim
      | some s' => rw [hb] at h; exact ⟨v, s', rfl, hb, h⟩
  unfold pureS at h
  split at h
  · rename_i hg
    rw [hg] at e3
    obtain ⟨v, s', h1, h2, h3⟩ := hD h
    exact ⟨v, s', by unfold Redo; rw [e3]; exact h1, h2, h3⟩
  · rename_i t w hg
    rw [hg] at e3
    obtain ⟨j, e4, e5⟩ := e3
    unfold gdOf at h
    split at h
    · rename_i b hb
      have hgd : gd ops { s with hp := hp } j w = some b := by
        unfold gd
        rw [e5]
        exact hb
      cases b with
      | true =>
        obtain ⟨v, s', h1, h2, h3⟩ := hD (h.1 rfl)
        refine ⟨v, s', ?_, h2, h3⟩
        unfold Redo
        rw [e4]
        exact ⟨true, hgd, fun _ => h1, fun e => by cases e⟩
      | false =>
        have h2 := h.2 rfl
        rw [e1] at h2
        cases hb2 : s.setv o.dst und with
        | none => rw [hb2] at h2; exact h2.elim
        | some s' =>
          rw [hb2] at h2
          refine ⟨und, s', ?_, hb2, h2⟩
          unfold Redo
          rw [e4]
          exact ⟨false, hgd, fun e => (by cases e), fun _ => rfl⟩
    · exact h.elim
theorem WDs_WDo {K : List Nat} {ops : Array Oper} : ∀ {m : Bool} {r : List (Nat × Kd)} {l : List (Sop × Kd)} {s : St} {k : St → Prop}, itemsS ops r = some l → WDs P K m l s k → WDo P K ops m r s k
  | m, [], l, s, k, hi, h => by simp only [itemsS, Option.some.injEq] at hi; subst hi; exact h
  | m, (i, kd) :: r, l, s, k, hi, h => by
    simp only [itemsS] at hi
    split at hi
    · rename_i o ho
      split at hi
      · rename_i x l' h1 h2
        simp only [Option.some.injEq] at hi; subst hi
        refine ⟨o, ho, ?_⟩
        cases kd with
        | ch D p =>
          have := WRs_WR h1 h
          refine WR_mono ?_ this
          rintro s' ⟨q1, q2, q3⟩
          exact ⟨sameOn_spec q1, q2, WDs_WDo h2 q3⟩
        | pu =>
          obtain ⟨v, s', q1, q2, q3⟩ := pureS_redo (hp := s.hp) h1 h
          exact ⟨v, s', q1, q2, WDs_WDo h2 q3⟩
        | la ls =>
          obtain ⟨q0, e, h⟩ := h
          obtain ⟨v, s', q1, q2, q3⟩ := pureS_redo h1 h
          refine ⟨fun t ht n hn => ?_, e, v, s', q1, q2, WDs_WDo h2 q3⟩
          simp only [laOK, List.all_eq_true] at q0
          exact (memb_iff _ _).1 (q0 t ht n hn)
      · cases hi
    · cases hi
theorem W_draw {K K' : List Nat} (hm : P.follows .mixedOrders = true) {id : Nat} {ops : Array Oper} {l : List (Sop × Kd)} (hc : copD ops = some l) {s : St} (hk1 : ∀ n ∈ K, n ∈ K') (hk2 : KIn K' s.hp) {Q : Exit → St → Prop} (h : WDs P K' false l s (Q .normal)) : W P K (.region id ops true) s Q := by
  obtain ⟨h1, r, h2, h3⟩ := copD_spec hc
  exact W_more hk1 hk2 (W_any hm h1 h2 (WDs_WDo h3 h))
end Go.Wl

