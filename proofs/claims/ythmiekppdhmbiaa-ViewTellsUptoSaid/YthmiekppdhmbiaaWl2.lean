/- Values and memory told without addresses: how memory is turned. -/
import Derived.Test.YthmiekppdhmbiaaWl1
set_option linter.unusedVariables false
namespace Go.Wl

def ltb (a b : Nat) : Bool := Nat.ble (Nat.succ a) b
/-- Puts a thing under a name. -/
def lset {α : Type} : List (Nat × α) → Nat → α → List (Nat × α)
  | [], i, x => [(i, x)]
  | (k, y) :: r, i, x => bif Nat.beq k i then (k, x) :: r else (k, y) :: lset r i x
theorem beq_iff (a b : Nat) : Nat.beq a b = true ↔ a = b := ⟨Nat.eq_of_beq_eq_true, fun h => by subst h; simp⟩
theorem lk_lset {α : Type} (l : List (Nat × α)) (i : Nat) (x : α) (j : Nat) : lk (lset l i x) j = if i = j then some x else lk l j := by
  induction l with
  | nil => rw [lset, lk_cons]
  | cons p r ih =>
    obtain ⟨k, y⟩ := p
    by_cases hk : Nat.beq k i = true
    · have := (beq_iff k i).1 hk
      subst this
      simp only [lset, hk, cond_true, lk_cons]
      split <;> rfl
    · simp only [Bool.not_eq_true] at hk
      have hne : k ≠ i := fun e => by rw [(beq_iff k i).2 e] at hk; cases hk
      simp only [lset, hk, cond_false, lk_cons, ih]
      by_cases h1 : k = j
      · subst h1; simp [Ne.symm hne]
      · simp [h1]
/-- Takes a name away. -/
def ldel {α : Type} : List (Nat × α) → Nat → List (Nat × α)
  | [], _ => []
  | (k, y) :: r, i => bif Nat.beq k i then ldel r i else (k, y) :: ldel r i
theorem lk_ldel {α : Type} (l : List (Nat × α)) (i j : Nat) : lk (ldel l i) j = if i = j then none else lk l j := by
  induction l with
  | nil => simp [ldel, lk]
  | cons p r ih =>
    obtain ⟨k, y⟩ := p
    by_cases hk : Nat.beq k i = true
    · have := (beq_iff k i).1 hk
      subst this
      simp only [ldel, hk, cond_true, lk_cons, ih]
      by_cases h1 : k = j <;> simp [h1]
    · simp only [Bool.not_eq_true] at hk
      have hne : k ≠ i := fun e => by rw [(beq_iff k i).2 e] at hk; cases hk
      simp only [ldel, hk, cond_false, lk_cons, ih]
      by_cases h1 : k = j
      · subst h1; simp [Ne.symm hne]
      · simp [h1]

def Ob.refs : Ob → List Nat
  | .cells vs => AV.refs.refsL vs
  | _ => []
def tmRefs : List (Nat × AV) → List Nat
  | [] => []
  | (_, x) :: r => x.refs ++ tmRefs r
def hpRefs : Hp → List Nat
  | [] => []
  | (_, x) :: r => x.refs ++ hpRefs r
def St.refs (s : St) : List Nat := tmRefs s.tm ++ hpRefs s.hp
theorem tmRefs_mem {l : List (Nat × AV)} {i : Nat} {x : AV} (h : lk l i = some x) {n : Nat} (hn : n ∈ x.refs) : n ∈ tmRefs l := by
  have := lk_mem h
  induction l with
  | nil => cases this
  | cons p r ih =>
    obtain ⟨k, y⟩ := p
    unfold tmRefs
    rw [lk_cons] at h
    split at h
    · simp at h; subst h; exact List.mem_append_left _ hn
    · exact List.mem_append_right _ (ih h (lk_mem h))
theorem hpRefs_mem {l : Hp} {i : Nat} {x : Ob} (h : lk l i = some x) {n : Nat} (hn : n ∈ x.refs) : n ∈ hpRefs l := by
  induction l with
  | nil => simp [lk] at h
  | cons p r ih =>
    obtain ⟨k, y⟩ := p
    unfold hpRefs
    rw [lk_cons] at h
    split at h
    · simp at h; subst h; exact List.mem_append_left _ hn
    · exact List.mem_append_right _ (ih h)
def memb : List Nat → Nat → Bool
  | [], _ => false
  | k :: r, n => bif Nat.beq k n then true else memb r n
theorem memb_iff (l : List Nat) (n : Nat) : memb l n = true ↔ n ∈ l := by
  induction l with
  | nil => simp [memb]
  | cons k r ih =>
    unfold memb
    by_cases h : Nat.beq k n = true
    · have := (beq_iff k n).1 h; subst this; rw [h]; simp
    · simp only [Bool.not_eq_true] at h
      have hne : n ≠ k := fun e => by rw [(beq_iff k n).2 e.symm] at h; cases h
      rw [h]; simp [ih, hne]
theorem refs_not {l : List Nat} {n : Nat} (h : memb l n = false) : n ∉ l := fun hm => by
  rw [(memb_iff l n).2 hm] at h; cases h
/-- Whether a value speaks of a name. -/
def AV.has (n : Nat) : AV → Bool
  | .ptr m _ => Nat.beq m n
  | .sl m _ => Nat.beq m n
  | .slc m _ _ _ => Nat.beq m n
  | .agg cs => hasL n cs
  | .tup vs => hasL n vs
  | .func _ f c => bif hasL n f then true else hasL n c
  | _ => false
where hasL (n : Nat) : List AV → Bool
  | [] => false
  | x :: r => bif x.has n then true else hasL n r
mutual
theorem has_spec {n : Nat} : ∀ {x : AV}, x.has n = false → n ∉ x.refs
  | .ptr m _, h => by
    intro hm
    simp only [AV.refs, List.mem_singleton] at hm
    rw [AV.has, (beq_iff m n).2 hm.symm] at h; cases h
  | .sl m _, h => by
    intro hm
    simp only [AV.refs, List.mem_singleton] at hm
    rw [AV.has, (beq_iff m n).2 hm.symm] at h; cases h
  | .slc m _ _ _, h => by
    intro hm
    simp only [AV.refs, List.mem_singleton] at hm
    rw [AV.has, (beq_iff m n).2 hm.symm] at h; cases h
  | .agg cs, h => by unfold AV.refs; unfold AV.has at h; exact hasL_spec h
  | .tup cs, h => by unfold AV.refs; unfold AV.has at h; exact hasL_spec h
  | .func _ f c, h => by
    unfold AV.refs
    unfold AV.has at h
    cases hf : AV.has.hasL n f
    · rw [hf] at h
      intro hm
      exact (List.mem_append.1 hm).elim (hasL_spec hf) (hasL_spec h)
    · rw [hf] at h; cases h
  | .d _, _ => by simp [AV.refs]
  | .nils, _ => by simp [AV.refs]
  | .lit _, _ => by simp [AV.refs]
  | .rs _ _, _ => by simp [AV.refs]
  | .any, _ => by simp [AV.refs]
theorem hasL_spec {n : Nat} : ∀ {l : List AV}, AV.has.hasL n l = false → n ∉ AV.refs.refsL l
  | [], _ => by simp [AV.refs.refsL]
  | x :: r, h => by
    unfold AV.refs.refsL
    unfold AV.has.hasL at h
    cases hx : x.has n
    · rw [hx] at h
      intro hm
      exact (List.mem_append.1 hm).elim (has_spec hx) (hasL_spec h)
    · rw [hx] at h; cases h
end
def Ob.has (n : Nat) : Ob → Bool
  | .cells vs => AV.has.hasL n vs
  | _ => false
def tmHas (n : Nat) : List (Nat × AV) → Bool
  | [] => false
  | (_, x) :: r => bif x.has n then true else tmHas n r
def hpHas (n : Nat) : Hp → Bool
  | [] => false
  | (_, x) :: r => bif x.has n then true else hpHas n r
theorem tmHas_spec {n : Nat} : ∀ {l : List (Nat × AV)}, tmHas n l = false → n ∉ tmRefs l
  | [], _ => by simp [tmRefs]
  | (k, x) :: r, h => by
    unfold tmRefs
    unfold tmHas at h
    cases hx : x.has n
    · rw [hx] at h
      intro hm
      exact (List.mem_append.1 hm).elim (has_spec hx) (tmHas_spec h)
    · rw [hx] at h; cases h
theorem hpHas_spec {n : Nat} : ∀ {l : Hp}, hpHas n l = false → n ∉ hpRefs l
  | [], _ => by simp [hpRefs]
  | (k, x) :: r, h => by
    unfold hpRefs
    unfold hpHas at h
    cases hx : x.has n
    · rw [hx] at h
      intro hm
      refine (List.mem_append.1 hm).elim (fun hm => ?_) (hpHas_spec h)
      cases x with
      | cells vs => exact hasL_spec hx hm
      | _ => cases hm
    · rw [hx] at h; cases h
theorem get_refs {s : St} {i n : Nat} (h : n ∈ (s.get i).refs) : n ∈ tmRefs s.tm := by
  unfold St.get at h
  split at h
  · rename_i x hx; exact tmRefs_mem hx h
  · cases h

theorem ObRel.mono {g g' : G} {w w' : World} {n : Nat} {ob : Ob} (hS : ∀ b o, g.S b o → g'.S b o) (hw : ∀ b o, g.S b o → w'.cell? ⟨b, o, none⟩ = w.cell? ⟨b, o, none⟩)
    (hn : g'.ρ n = g.ρ n ∧ g'.τ n = g.τ n) (hr : ∀ m ∈ ob.refs, g'.ρ m = g.ρ m ∧ g'.τ m = g.τ m) (hb : ∀ b, (∃ o, ownO g n ob b o) → w'.heap[b]? = w.heap[b]?) (h : ObRel g w n ob) : ObRel g' w' n ob := by
  cases ob with
  | cells vs =>
    obtain ⟨c, e, fr, h1, h2, h3, h4⟩ := h
    refine ⟨c, e, fr, by rw [hn.1, hb _ ⟨0, rfl⟩]; exact h1, h2, h3, fun j x hx => ?_⟩
    exact (h4 j x hx).mono hS hw fun m hm => hr m (by unfold Ob.refs; exact refsL_mem (List.mem_of_getElem? hx) hm)
  | tail sz =>
    obtain ⟨h1, h0, h2⟩ := h
    refine ⟨by rw [hn.2]; exact h1, h0, ?_⟩
    rw [hn.2]
    intro hroom
    obtain ⟨c, e, fr, h3, h4, h5⟩ := h2 hroom
    exact ⟨c, e, fr, by rw [hb _ ⟨(g.τ n).off, hroom, rfl, Nat.le_refl _, by rw [h1]; have : 0 < (g.τ n).room * sz := Nat.mul_pos hroom h0; omega⟩]; exact h3, h4, h5⟩
  | iter s pos =>
    show w'.heap[g'.ρ n]? = _
    rw [hn.1, hb _ ⟨0, rfl⟩]
    exact h
end Go.Wl

