/- Values and memory told without addresses: a region in any order. -/
import Derived.Test.YthmiekppdhmbiaaWlM
set_option linter.unusedVariables false
set_option linter.unusedSimpArgs false
namespace Go.Wl
variable {P : Program}

inductive Anc (ops : Array Oper) : Nat → Nat → Prop
  | base {i j o} (ho : ops[i]? = some o) (h : j ∈ pre o) : Anc ops j i
  | step {i j k o} (ho : ops[i]? = some o) (h : k ∈ pre o) (r : Anc ops j k) : Anc ops j i
theorem Anc.listed {ops : Array Oper} {L : Nat → Prop} (hd : ∀ i o, L i → ops[i]? = some o → ∀ p ∈ pre o, L p) {j i : Nat} (h : Anc ops j i) : (∀ o, ops[i]? = some o → ∀ p ∈ pre o, L p) → L j := by
  induction h with
  | base ho h => exact fun hi => hi _ ho _ h
  | step ho h r ih => exact fun hi => ih fun o' ho' => hd _ o' (hi _ ho _ h) ho'

/-- The operations, one behind the other; in between things may be done that wait for nothing. -/
def WDo (P : Program) (K : List Nat) (ops : Array Oper) : Bool → List (Nat × Kd) → St → (St → Prop) → Prop
  | _, [], s, k => k s
  | m, (i, kd) :: r, s, k => ∃ o, ops[i]? = some o ∧ match kd with
    | .ch D p => WR P K ops [o] s fun s' => (∀ t ∈ D, s'.get t = s.get t) ∧ ((m && p) = true → s'.hp = s.hp) ∧ WDo P K ops (m && p) r s' k
    | .pu => ∃ v s', Redo P ops o s v ∧ s.setv o.dst v = some s' ∧ WDo P K ops m r s' k
    | .la ls => (∀ t ∈ o.looksAt ops, ∀ n ∈ (s.get t).refs, n ∈ K) ∧ ∃ (e : Bool) (v : AV) (s' : St), Redo P ops o { s with hp := bif e then s.hp else [] } v ∧ s.setv o.dst v = some s' ∧ WDo P K ops (m || e) r s' k
def inV (V : List (Nat × Kd)) (i : Nat) : Prop := ∃ kd, (i, kd) ∈ V
def isCh : Kd → Prop
  | .ch _ _ => True
  | _ => False
/-- What must be so of the text. -/
structure Gd (ops : Array Oper) : Prop where
  lt : ∀ (i : Nat) (o : Oper), ops[i]? = some o → ∀ p ∈ pre o, p < i
  dd : ∀ (i : Nat) (o : Oper) (j : Nat) (o' : Oper), ops[i]? = some o → ops[j]? = some o' → i ≠ j → o.dst ≠ none → o.dst ≠ o'.dst
  ll : ∀ (i : Nat) (o : Oper) (j : Nat) (o' : Oper) (t : Tmp), ops[i]? = some o → ops[j]? = some o' → t ∈ o.looksAt ops → o'.dst = some t → i ≠ j ∧ (j ∈ pre o ∨ i ∈ pre o')
  sel : ∀ (i : Nat) (o : Oper), ops[i]? = some o → ∀ cs b, o.op ≠ .select cs b
def Chk (ops : Array Oper) : List (Nat × Kd) → List (Nat × Kd) → Prop
  | V, [] => ∀ i, i < ops.size → inV V i
  | V, (i, kd) :: r => ¬ inV V i ∧ (∀ o, ops[i]? = some o → ∀ p ∈ pre o, inV V p) ∧ Chk ops ((i, kd) :: V) r ∧ match kd with
    | .ch D p => (∀ j, j < ops.size → ¬ inV V j → j ≠ i → (∃ o, ops[j]? = some o ∧ ∃ p ∈ pre o, ¬ inV V p) ∨ Anc ops i j) ∧ ∀ j kd, (j, kd) ∈ V → ¬ isCh kd → Anc ops j i ∨ (p = true ∧ (∃ ls, kd = .la ls) ∧ ∀ o d, ops[j]? = some o → o.dst = some d → d ∈ D)
    | _ => True

def unl (n : Nat) (L : Array Bool) : Nat := (List.range n).countP fun i => !(L.getD i true)
theorem countP_lt {p q : Nat → Bool} (h : ∀ x, q x = true → p x = true) {i : Nat} (hp : p i = true) (hq : q i = false) : ∀ {l : List Nat}, i ∈ l → l.countP q < l.countP p := by
  intro l
  induction l with
  | nil => intro h; cases h
  | cons x r ih =>
    intro hi
    have hle : r.countP q ≤ r.countP p := List.countP_mono_left fun y _ => h y
    simp only [List.countP_cons]
    by_cases e : x = i
    · subst e
      rw [if_neg (by rw [hq]; simp), if_pos hp]
      omega
    · have := ih (by rcases List.mem_cons.1 hi with e' | e'; exact absurd e'.symm e; exact e')
      split
      · rename_i hqx
        rw [if_pos (h x hqx)]
        omega
      · split <;> omega
theorem set_unl {n i : Nat} {L : Array Bool} (hi : i < n) (hL : L.getD i true = false) : unl n (L.setIfInBounds i true) < unl n L := by
  have hsz : i < L.size := by
    rcases Nat.lt_or_ge i L.size with h | h
    · exact h
    · rw [Array.getD_eq_getD_getElem?, Array.getElem?_eq_none h] at hL; cases hL
  refine countP_lt (i := i) (fun x hx => ?_) (by simp [hL]) (by simp [hsz]) (List.mem_range.2 hi)
  by_cases e : i = x
  · subst e; simp [hsz] at hx
  · rw [getD_set_ne true e] at hx; exact hx

structure Sta (ops : Array Oper) (K : List Nat) (m : Bool) (V : List (Nat × Kd)) (ps : List Rec) (L : Array Bool) : Prop where
  sz : L.size = ops.size
  un : ∀ i, i < ops.size → (L.getD i true = false ↔ ¬ inV V i ∨ ∃ r ∈ ps, r.i = i)
  vd : ∀ (i : Nat) (o : Oper), inV V i → ops[i]? = some o → ∀ p ∈ pre o, inV V p
  ld : ∀ (i : Nat) (o : Oper), L.getD i true = true → ops[i]? = some o → ∀ p ∈ pre o, L.getD p true = true
  uq : ∀ r ∈ ps, ∀ r' ∈ ps, r'.i = r.i → r' = r
  pv : ∀ r ∈ ps, ∃ kd, (r.i, kd) ∈ V ∧ ¬ isCh kd ∧ ∀ ls, kd = .la ls → (r.s.hp = [] ∨ m = true) ∧ ∀ t ∈ r.o.looksAt ops, ∀ n ∈ (r.s.get t).refs, n ∈ K
theorem inV_cons {V : List (Nat × Kd)} {i j : Nat} {kd : Kd} : inV ((i, kd) :: V) j ↔ j = i ∨ inV V j := by
  unfold inV
  constructor
  · rintro ⟨k, h⟩
    rcases List.mem_cons.1 h with h | h
    · cases h; exact .inl rfl
    · exact .inr ⟨k, h⟩
  · rintro (rfl | ⟨k, h⟩)
    · exact ⟨kd, List.mem_cons_self⟩
    · exact ⟨k, List.mem_cons_of_mem _ h⟩
theorem lt_of_some {ops : Array Oper} {i : Nat} {o : Oper} (h : ops[i]? = some o) : i < ops.size := (Array.getElem?_eq_some_iff.1 h).1

def Inv (P : Program) (K : List Nat) (ops : Array Oper) (Q : Exit → Act → World → Prop) (fuel : Nat) : Prop := ∀ (m : Bool) (rest V : List (Nat × Kd)) (s : St) (ps : List Rec) (g : G) (L : Array Bool) (a : Act) (w : World) (k : St → Prop),
    J P ops g s ps a w → KIn K s.hp → WDo P K ops m rest s k → Chk ops V rest → Sta ops K m V ps L → unl ops.size L ≤ fuel →
    (∀ s' g' a' w', Sim g' s' a' w' → To K g s.hp w g' s'.hp w' → k s' → Q .normal a' w') → wpAny P .any ops Q fuel L a w

section
variable {K : List Nat} {m : Bool} {ops : Array Oper} {rest V : List (Nat × Kd)} {s : St} {ps : List Rec} {g : G} {L : Array Bool} {a : Act} {w : World} {k : St → Prop} {Q : Exit → Act → World → Prop}
theorem any_fin (hJ : J P ops g s ps a w) (hk : KIn K s.hp) (hW : WDo P K ops m rest s k) (hC : Chk ops V rest) (hS : Sta ops K m V ps L)
    (hQ : ∀ s' g' a' w', Sim g' s' a' w' → To K g s.hp w g' s'.hp w' → k s' → Q .normal a' w') (hall : ∀ i, i < ops.size → L.getD i true = true) : Q .normal a w := by
  have hps : ps = [] := by
    cases ps with
    | nil => rfl
    | cons r _ =>
      have h1 := lt_of_some (hJ.op r List.mem_cons_self)
      have h2 := (hS.un r.i h1).2 (.inr ⟨r, List.mem_cons_self, rfl⟩)
      rw [hall _ h1] at h2
      cases h2
  subst hps
  cases rest with
  | nil => exact hQ s g a w ⟨hJ.n, hJ.df, fun t => hJ.tm t (by simp), hJ.hp⟩ (To.refl hk) hW
  | cons it r =>
    obtain ⟨i, kd⟩ := it
    obtain ⟨o, ho, _⟩ := hW
    have h1 := lt_of_some ho
    have h2 := (hS.un i h1).2 (.inl hC.1)
    rw [hall _ h1] at h2
    cases h2
theorem Sta.inV_ps (hS : Sta ops K m V ps L) {r : Rec} (hr : r ∈ ps) : inV V r.i := by
  obtain ⟨kd, h, _⟩ := hS.pv r hr
  exact ⟨kd, h⟩
theorem any_pure (G0 : Gd ops) {i : Nat} {kd : Kd} (hkd : ¬ isCh kd) (hJ : J P ops g s ps a w) (hW : WDo P K ops m ((i, kd) :: rest) s k) (hC : Chk ops V ((i, kd) :: rest)) (hS : Sta ops K m V ps L) :
    ∃ m' s' r, J P ops g s' (r :: ps) a w ∧ s'.hp = s.hp ∧ WDo P K ops m' rest s' k ∧ Chk ops ((i, kd) :: V) rest ∧ Sta ops K m' ((i, kd) :: V) (r :: ps) L := by
  obtain ⟨o, ho, hW⟩ := hW
  obtain ⟨c1, c2, c3, _⟩ := hC
  have key : ∀ m' hp, (m = true → m' = true) → (hp = [] ∨ hp = s.hp) → (∀ ls, kd = .la ls → (hp = [] ∨ m' = true) ∧ ∀ t ∈ o.looksAt ops, ∀ n ∈ (s.get t).refs, n ∈ K) → (∃ v s', Redo P ops o { s with hp := hp } v ∧ s.setv o.dst v = some s' ∧ WDo P K ops m' rest s' k) →
      ∃ m' s' r, J P ops g s' (r :: ps) a w ∧ s'.hp = s.hp ∧ WDo P K ops m' rest s' k ∧ Chk ops ((i, kd) :: V) rest ∧ Sta ops K m' ((i, kd) :: V) (r :: ps) L := by
    rintro m' hp hmm hhp hla ⟨v, s', h1, h2, h3⟩
    have hne : ∀ r ∈ ps, r.i ≠ i := fun r hr e => c1 (e ▸ hS.inV_ps hr)
    have hnp : ∀ r ∈ ps, i ∉ pre r.o := fun r hr hm => c1 (hS.vd r.i r.o (hS.inV_ps hr) (hJ.op r hr) i hm)
    refine ⟨m', s', _, hJ.pure ho hhp h1 h2 hne (fun r hr hd => G0.dd i o r.i r.o ho (hJ.op r hr) (hne r hr).symm hd) (fun r hr hd => G0.dd r.i r.o i o (hJ.op r hr) ho (hne r hr) hd) (fun r hr t ht hd => ?_) (fun r hr t ht hd => ?_) (fun t ht hd => ?_), (setv_get h2).1, h3, c3, hS.sz, fun j hj => ?_, fun j o' hj ho' p hp => ?_, hS.ld, ?_, ?_⟩
    · rcases (G0.ll r.i r.o i o t (hJ.op r hr) ho ht hd).2 with h | h
      · exact absurd h (hnp r hr)
      · exact h
    · rcases (G0.ll i o r.i r.o t ho (hJ.op r hr) ht hd).2 with h | h
      · exact h
      · exact absurd h (hnp r hr)
    · exact (G0.ll i o i o t ho ho ht hd).1 rfl
    · rw [hS.un j hj, inV_cons]
      by_cases e : j = i
      · subst e
        simp only [true_or, not_true_eq_false, false_or]
        exact ⟨fun _ => ⟨_, List.mem_cons_self, rfl⟩, fun _ => .inl c1⟩
      · constructor
        · rintro (h | ⟨r, hr, e'⟩)
          · exact .inl fun h' => by rcases h' with h' | h'; exact e h'; exact h h'
          · exact .inr ⟨r, List.mem_cons_of_mem _ hr, e'⟩
        · rintro (h | ⟨r, hr, e'⟩)
          · exact .inl fun h' => h (.inr h')
          · rcases List.mem_cons.1 hr with rfl | hr
            · exact absurd e'.symm e
            · exact .inr ⟨r, hr, e'⟩
    · rw [inV_cons] at hj ⊢
      rcases hj with rfl | hj
      · exact .inr (c2 o' ho' p hp)
      · exact .inr (hS.vd j o' hj ho' p hp)
    · intro r hr r' hr' e
      rcases List.mem_cons.1 hr with rfl | hr
      · rcases List.mem_cons.1 hr' with rfl | hr'
        · rfl
        · exact absurd e (hne r' hr')
      · rcases List.mem_cons.1 hr' with rfl | hr'
        · exact absurd e.symm (hne r hr)
        · exact hS.uq r hr r' hr' e
    · intro r hr
      rcases List.mem_cons.1 hr with rfl | hr
      · refine ⟨kd, List.mem_cons_self, hkd, fun ls e => ⟨(hla ls e).1, fun t ht n hn => (hla ls e).2 t ht n ?_⟩⟩
        have : (snap s hp (o.looksAt ops)).get t = s.get t := by rw [snap, St.get_keep, if_pos ((memb_iff _ _).2 ht)]
        rw [← this]; exact hn
      · obtain ⟨kd', q1, q2, q3⟩ := hS.pv r hr
        exact ⟨kd', List.mem_cons_of_mem _ q1, q2, fun ls e => ⟨(q3 ls e).1.imp id hmm, (q3 ls e).2⟩⟩
  cases kd with
  | ch D p => exact absurd trivial hkd
  | pu => exact key m s.hp id (.inr rfl) (fun ls e => by cases e) hW
  | la ls =>
    obtain ⟨q0, e, v, s', q1, q2, q3⟩ := hW
    cases e with
    | false => exact key (m || false) [] (fun e => by rw [e]; rfl) (.inl rfl) (fun _ _ => ⟨.inl rfl, q0⟩) ⟨v, s', q1, q2, q3⟩
    | true => exact key (m || true) s.hp (fun e => by rw [e]; rfl) (.inr rfl) (fun _ _ => ⟨.inr (by simp), q0⟩) ⟨v, s', q1, q2, q3⟩

theorem getD_set {L : Array Bool} {i j : Nat} (hi : i < L.size) : (L.setIfInBounds i true).getD j true = if i = j then true else L.getD j true := by
  by_cases e : i = j
  · subst e; simp [hi]
  · rw [getD_set_ne true e, if_neg e]
theorem getD_tf {L : Array Bool} {i : Nat} (hi : i < L.size) : L.getD i true = L.getD i false := by simp [hi]
theorem any_step (G0 : Gd ops) {fuel : Nat} (ih : Inv P K ops Q fuel) (hhd : ∀ i kd r, rest = (i, kd) :: r → isCh kd) (hJ : J P ops g s ps a w) (hk : KIn K s.hp) (hW : WDo P K ops m rest s k) (hC : Chk ops V rest) (hS : Sta ops K m V ps L) (hu : unl ops.size L ≤ fuel + 1)
    (hQ : ∀ s' g' a' w', Sim g' s' a' w' → To K g s.hp w g' s'.hp w' → k s' → Q .normal a' w') : wpAny P .any ops Q (fuel + 1) L a w := by
  refine ⟨fun hr => any_fin hJ hk hW hC hS hQ fun i hi => ?_, fun i hi => ?_⟩
  · refine Classical.byContradiction fun hn => ?_
    have hn : L.getD i true = false := by simpa using hn
    obtain ⟨m, ⟨hm1, hm2⟩, hmin⟩ := least (fun m => m < ops.size ∧ L.getD m true = false) ⟨i, hi, hn⟩
    have : m ∈ Region.ready .any ops L := by
      rw [mem_ready]
      refine ⟨hm2, ops[m], Array.getElem?_eq_getElem hm1, fun e he hb => ?_⟩
      have hp : e.on ∈ pre ops[m] := List.mem_map.2 ⟨e, List.mem_filter.2 ⟨by simpa using he, hb⟩, rfl⟩
      have hlt := G0.lt m _ (Array.getElem?_eq_getElem hm1) e.on hp
      cases hq : L.getD e.on true
      · have := hmin e.on ⟨by omega, hq⟩; omega
      · rw [← getD_tf (by rw [hS.sz]; omega)]; exact hq
    rw [hr] at this
    cases this
  · obtain ⟨hun, o, ho, hpre⟩ := mem_ready.1 hi
    have hin := lt_of_some ho
    have hpl : ∀ p ∈ pre o, L.getD p true = true := fun p hp => by
      obtain ⟨e, he, rfl⟩ := List.mem_map.1 hp
      obtain ⟨he, hb⟩ := List.mem_filter.1 he
      have hlt := G0.lt i o ho e.on hp
      rw [getD_tf (by rw [hS.sz]; omega)]
      exact hpre e (by simpa using he) hb
    have hld : ∀ j o', (L.setIfInBounds i true).getD j true = true → ops[j]? = some o' → ∀ p ∈ pre o', (L.setIfInBounds i true).getD p true = true := fun j o' hj ho' p hp => by
      rw [getD_set (by rw [hS.sz]; exact hin)] at hj ⊢
      split
      · rfl
      · by_cases e : i = j
        · subst e
          rw [ho] at ho'
          cases ho'
          exact hpl p hp
        · rw [if_neg e] at hj
          exact hS.ld j o' hj ho' p hp
    have hfu : unl ops.size (L.setIfInBounds i true) ≤ fuel := by have := set_unl hin hun; omega
    have hlv : ∀ j, j < ops.size → L.getD j true = true → inV V j := fun j hj hl => Classical.byContradiction fun hn => by
      have := (hS.un j hj).2 (.inl hn)
      rw [hl] at this; cases this
    by_cases hps : ∃ r ∈ ps, r.i = i
    · obtain ⟨r, hr, rfl⟩ := hps
      rw [hJ.op r hr] at ho
      cases ho
      have hnp : ∀ r' ∈ ps, r'.i ∉ pre r.o := fun r' hr' hm => by
        have h1 := hpl r'.i hm
        have h2 := (hS.un r'.i (lt_of_some (hJ.op r' hr'))).2 (.inr ⟨r', hr', rfl⟩)
        rw [h1] at h2; cases h2
      obtain ⟨u, h1, h2⟩ := hJ.redo hr hnp (fun r' hr' e => hS.uq r hr r' hr' e) (fun hm => Nat.lt_irrefl _ (G0.lt r.i r.o (hJ.op r hr) r.i hm)) Q
      refine h1 _ (ih m rest V s (rmv ps r.i) g _ _ w k h2 hk hW hC ⟨by simp [hS.sz], fun j hj => ?_, hS.vd, hld, fun x hx y hy e => hS.uq x (mem_rmv.1 hx).1 y (mem_rmv.1 hy).1 e, fun x hx => hS.pv x (mem_rmv.1 hx).1⟩ hfu hQ)
      rw [getD_set (by rw [hS.sz]; exact hin)]
      by_cases e : r.i = j
      · subst e
        rw [if_pos rfl]
        refine ⟨fun h => (by cases h), fun h => ?_⟩
        rcases h with h | ⟨x, hx, e⟩
        · exact absurd (hS.inV_ps hr) h
        · exact absurd e (mem_rmv.1 hx).2
      · rw [if_neg e, hS.un j hj]
        refine or_congr Iff.rfl ⟨fun ⟨x, hx, e'⟩ => ⟨x, mem_rmv.2 ⟨hx, fun q => e (q.symm.trans e')⟩, e'⟩, fun ⟨x, hx, e'⟩ => ⟨x, (mem_rmv.1 hx).1, e'⟩⟩
    · have hnv : ¬ inV V i := by
        rcases (hS.un i hin).1 hun with h | h
        · exact h
        · exact absurd h hps
      cases rest with
      | nil => exact absurd (hC i hin) hnv
      | cons it rest =>
        obtain ⟨c, kd⟩ := it
        cases kd with
        | ch D pp =>
          obtain ⟨o', ho', hW⟩ := hW
          obtain ⟨c1, c2, c3, c4, c5⟩ := hC
          have hci : i = c := by
            refine Classical.byContradiction fun hne => ?_
            rcases c4 i hin hnv hne with ⟨o'', q1, p, q2, q3⟩ | h
            · rw [ho] at q1; cases q1
              exact q3 (hlv p (Nat.lt_trans (G0.lt i o ho p q2) hin) (hpl p q2))
            · have : L.getD c true = true := h.listed (L := fun x => L.getD x true = true) (fun x ox hx hox => hS.ld x ox hx hox) (fun o'' ho'' p hp => by rw [ho] at ho''; cases ho''; exact hpl p hp)
              exact c1 (hlv c (lt_of_some ho') this)
          subst hci
          rw [ho] at ho'
          cases ho'
          have hnanc : ∀ r ∈ ps, ¬ Anc ops r.i i := fun r hr h => by
            have h1 : L.getD r.i true = true := h.listed (L := fun x => L.getD x true = true) (fun x ox hx hox => hS.ld x ox hx hox) (fun o'' ho'' p hp => by rw [ho] at ho''; cases ho''; exact hpl p hp)
            have h2 := (hS.un r.i (lt_of_some (hJ.op r hr))).2 (.inr ⟨r, hr, rfl⟩)
            rw [h1] at h2; cases h2
          have hnp : ∀ r ∈ ps, i ∉ pre r.o := fun r hr hm => c1 (hS.vd r.i r.o (hS.inV_ps hr) (hJ.op r hr) i hm)
          have hnp' : ∀ r ∈ ps, r.i ∉ pre o := fun r hr hm => hnanc r hr (.base ho hm)
          have hpp : ∀ r ∈ ps, pp = true := fun r hr => by
            obtain ⟨kd, p1, p2, p3⟩ := hS.pv r hr
            rcases c5 r.i kd p1 p2 with h | h
            · exact absurd h (hnanc r hr)
            · exact h.1
          have hlm : ∀ r ∈ ps, (r.s.hp = [] ∨ (m && pp) = true) ∧ ∀ t ∈ r.o.looksAt ops, ∀ n ∈ (r.s.get t).refs, n ∈ K := fun r hr => by
            obtain ⟨kd, p1, p2, p3⟩ := hS.pv r hr
            rcases c5 r.i kd p1 p2 with h | ⟨_, ⟨ls, h⟩, _⟩
            · exact absurd h (hnanc r hr)
            · exact ⟨(p3 ls h).1.imp id fun e => by rw [e, hpp r hr]; rfl, (p3 ls h).2⟩
          have hst := hJ.chain (m := m && pp) (Q := Q) hk ho (G0.sel i o ho) hW G0.lt hS.uq hlm (fun r hr d hd => ?_) (fun r hr d hd hm => ?_) (fun r hr t ht hd => ?_)
          · refine wpOp_mono (fun a' w' => ?_) hst
            rintro ⟨s', g', q1, q2, q3⟩
            refine ih (m && pp) rest ((i, .ch D pp) :: V) s' ps g' _ a' w' k q1 q2.ki q3 c3 ⟨by simp [hS.sz], fun j hj => ?_, fun j o' hj ho' p hp => ?_, hld, hS.uq, fun r hr => ?_⟩ hfu fun s'' g'' a'' w'' p1 p2 p3 => hQ s'' g'' a'' w'' p1 (q2.trans p2) p3
            · rw [getD_set (by rw [hS.sz]; exact hin), inV_cons]
              by_cases e : i = j
              · subst e
                rw [if_pos rfl]
                refine ⟨fun h => (by cases h), fun h => ?_⟩
                rcases h with h | h
                · exact absurd (.inl rfl) h
                · exact absurd h hps
              · rw [if_neg e, hS.un j hj]
                refine or_congr ⟨fun h h' => ?_, fun h h' => h (.inr h')⟩ Iff.rfl
                rcases h' with h' | h'
                · exact e h'.symm
                · exact h h'
            · rw [inV_cons] at hj ⊢
              rcases hj with rfl | hj
              · exact .inr (c2 o' ho' p hp)
              · exact .inr (hS.vd j o' hj ho' p hp)
            · obtain ⟨kd', q1, q2, q3⟩ := hS.pv r hr
              exact ⟨kd', List.mem_cons_of_mem _ q1, q2, fun ls e => hlm r hr⟩
          · obtain ⟨kd, p1, p2, p3⟩ := hS.pv r hr
            rcases c5 r.i kd p1 p2 with h | ⟨_, _, h⟩
            · exact absurd h (hnanc r hr)
            · exact h r.o d (hJ.op r hr) hd
          · rcases (G0.ll i o r.i r.o d ho (hJ.op r hr) hm hd).2 with h | h
            · exact hnp' r hr h
            · exact hnp r hr h
          · rcases (G0.ll r.i r.o i o t (hJ.op r hr) ho ht hd).2 with h | h
            · exact hnp r hr h
            · exact hnp' r hr h
        | pu => exact absurd (hhd _ _ _ rfl) id
        | la ls => exact absurd (hhd _ _ _ rfl) id
end

theorem any_sound {K : List Nat} {ops : Array Oper} (G0 : Gd ops) {Q : Exit → Act → World → Prop} : ∀ (fuel : Nat), Inv P K ops Q fuel := by
  intro fuel
  induction fuel with
  | zero =>
    intro m rest V s ps g L a w k hJ hk hW hC hS hu hQ
    have hall : ∀ i, i < ops.size → L.getD i true = true := fun i hi => by
      have h0 : unl ops.size L = 0 := by omega
      unfold unl at h0
      rw [List.countP_eq_zero] at h0
      have := h0 i (List.mem_range.2 hi)
      simpa using this
    refine ⟨?_, any_fin hJ hk hW hC hS hQ hall⟩
    cases hr : Region.ready .any ops L with
    | nil => rfl
    | cons i r =>
      have : i ∈ Region.ready .any ops L := by rw [hr]; exact List.mem_cons_self
      obtain ⟨h1, o, ho, _⟩ := mem_ready.1 this
      rw [hall i (lt_of_some ho)] at h1
      cases h1
  | succ fuel ih =>
    intro m rest
    induction rest generalizing m with
    | nil =>
      intro V s ps g L a w k hJ hk hW hC hS hu hQ
      exact any_step G0 ih (fun _ _ _ e => by cases e) hJ hk hW hC hS hu hQ
    | cons it rest ihr =>
      intro V s ps g L a w k hJ hk hW hC hS hu hQ
      obtain ⟨i, kd⟩ := it
      by_cases hkd : isCh kd
      · exact any_step G0 ih (fun _ _ _ e => by cases e; exact hkd) hJ hk hW hC hS hu hQ
      · obtain ⟨m', s', r, h1, h2, h3, h4, h5⟩ := any_pure G0 hkd hJ hW hC hS
        exact ihr m' _ s' _ g L a w k h1 (by rw [h2]; exact hk) h3 h4 h5 hu (by rw [h2]; exact hQ)

theorem W_more {K K' : List Nat} {c : Code} {s : St} {Q : Exit → St → Prop} (h1 : ∀ n ∈ K, n ∈ K') (h2 : KIn K' s.hp) (h : W P K' c s Q) : W P K c s Q := fun g a w hk hs =>
  wp_mono (h g a w h2 hs) fun e a' w' ⟨s', g', q1, q2, q3⟩ => ⟨s', g', q1, ⟨q2.ev, fun n hn => q2.ks n (h1 n hn), fun n hn => q2.ki n (h1 n hn)⟩, q3⟩
theorem W_any {K : List Nat} {ops : Array Oper} (hm : P.follows .mixedOrders = true) (G0 : Gd ops) {rest : List (Nat × Kd)} (hC : Chk ops [] rest) {id : Nat} {s : St} {Q : Exit → St → Prop} (h : WDo P K ops false rest s (Q .normal)) : W P K (.region id ops true) s Q := fun g a w hk hs => by
  refine wp_region_any hm ?_
  have hsim : SimH g s.hp { w with drawn := w.drawn + 1 } := hs.hp.world rfl
  have hto : To K g s.hp w g s.hp { w with drawn := w.drawn + 1 } := ⟨Ev.world rfl rfl rfl rfl (fun _ _ => Iff.rfl) (fun _ _ h => h), fun _ _ => ⟨rfl, rfl⟩, hk⟩
  have htm : ∀ t, Rel g { w with drawn := w.drawn + 1 } (a.tmps.getD t undef) (s.get t) := fun t => Rel.mono (g := g) (w := w) (g' := g) (w' := { w with drawn := w.drawn + 1 }) (fun _ _ h => h) (fun b o _ => rfl) (hs.tm t) fun _ _ => ⟨rfl, rfl⟩
  have hno : ∀ {p : Rec → Prop}, ∀ r ∈ ([] : List Rec), p r := fun r hr => by cases hr
  refine any_sound G0 ops.size false rest [] s [] g _ a _ _ ⟨hs.n, hs.df, hsim, fun t _ => htm t, hno, hno, hno, hno, hno, hno, hno, hno⟩ hk h hC ⟨by simp, fun i hi => ?_, fun i o hi => ?_, fun i o hi ho p hp => ?_, hno, hno⟩ (by unfold unl; exact Nat.le_trans (List.countP_le_length) (by simp)) fun s' g' a' w' p1 p2 p3 => ⟨s', g', p1, hto.trans p2, p3⟩
  · simp [hi, inV]
  · obtain ⟨kd, h⟩ := hi; cases h
  · simp [lt_of_some ho] at hi
end Go.Wl

