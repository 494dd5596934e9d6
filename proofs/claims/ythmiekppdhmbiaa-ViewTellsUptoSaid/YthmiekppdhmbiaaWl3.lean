/- Values and memory told without addresses: steps of memory. -/
import Derived.Test.YthmiekppdhmbiaaWl2
set_option linter.unusedVariables false
set_option linter.unusedSimpArgs false
namespace Go.Wl

/-- The world with another object in an old block. -/
def wr (w : World) (b : Nat) (o : Obj) : World := { w with heap := w.heap.setIfInBounds b o }
theorem wr_heap {w : World} {b : Nat} {o : Obj} (h : b < w.heap.size) (k : Nat) : (wr w b o).heap[k]? = if b = k then some o else w.heap[k]? := by
  unfold wr
  rw [Array.getElem?_setIfInBounds]
  by_cases hk : b = k
  · subst hk; simp [h]
  · simp [hk]
theorem cell_of {w : World} {b o : Nat} {c : Array Value} {e : TypeId} {fr : Nat × Nat} (h : w.heap[b]? = some (.cells c e fr)) : w.cell? ⟨b, o, none⟩ = c[o]? := by
  simp [World.cell?, h]
theorem frozen_of {w : World} {b o : Nat} {c : Array Value} {e : TypeId} {fr : Nat × Nat} (h : w.heap[b]? = some (.cells c e fr)) (hf : ¬ (fr.1 ≤ o ∧ o < fr.2)) : w.frozen? ⟨b, o, none⟩ = false := by
  simp only [World.frozen?, h]
  rw [← Bool.not_eq_true, Bool.and_eq_true]
  simpa using hf
theorem cell_other {w w' : World} {b o : Nat} (h : w'.heap[b]? = w.heap[b]?) : w'.cell? ⟨b, o, none⟩ = w.cell? ⟨b, o, none⟩ := by
  simp [World.cell?, h]

def G.setρ (g : G) (n b : Nat) : G := { g with ρ := fun m => if m = n then b else g.ρ m }
def G.setτ (g : G) (n : Nat) (t : Tl) : G := { g with τ := fun m => if m = n then t else g.τ m }
def G.seal (g : G) (p : Nat → Nat → Prop) : G := { g with S := fun b o => g.S b o ∨ p b o }

theorem own_lt {g : G} {hp : Hp} {w : World} (h : SimH g hp w) {n : Nat} {ob : Ob} (hn : lk hp n = some ob) {b o : Nat} (ho : ownO g n ob b o) : b < w.heap.size := by
  have := h.ob n ob hn
  cases ob with
  | cells vs =>
    obtain ⟨c, e, fr, h1, _⟩ := this
    have : b = g.ρ n := ho
    rw [this]; exact (Array.getElem?_eq_some_iff.1 h1).1
  | tail sz =>
    obtain ⟨_, _, h2⟩ := this
    obtain ⟨c, e, fr, h1, _⟩ := h2 ho.1
    rw [ho.2.1]; exact (Array.getElem?_eq_some_iff.1 h1).1
  | iter s pos =>
    have h1 : w.heap[g.ρ n]? = _ := this
    have : b = g.ρ n := ho
    rw [this]; exact (Array.getElem?_eq_some_iff.1 h1).1

theorem own_same {g g' : G} {m : Nat} {ob : Ob} (h : g'.ρ m = g.ρ m ∧ g'.τ m = g.τ m) (b o : Nat) : ownO g' m ob b o ↔ ownO g m ob b o := by
  cases ob <;> simp [ownO, h.1, h.2]

/-- A new block for an object under a new name. -/
theorem SimH.new {g : G} {hp : Hp} {w : World} (h : SimH g hp w) {n : Nat} (hn : lk hp n = none) (hr : n ∉ hpRefs hp) (obj : Obj) (ob : Ob) (ht : ∀ sz, ob ≠ .tail sz)
    (hob : ObRel (g.setρ n w.heap.size) (w.alloc obj) n ob) :
    SimH (g.setρ n w.heap.size) (lset hp n ob) (w.alloc obj) ∧ Ev (Own g hp) (Own (g.setρ n w.heap.size) (lset hp n ob)) g (g.setρ n w.heap.size) w (w.alloc obj) := by
  have hold : ∀ k, k < w.heap.size → (w.alloc obj).heap[k]? = w.heap[k]? := fun k hk => by
    show (w.heap.push obj)[k]? = _
    rw [Array.getElem?_push, if_neg (by omega)]
  have hsame : ∀ m, m ≠ n → (g.setρ n w.heap.size).ρ m = g.ρ m ∧ (g.setρ n w.heap.size).τ m = g.τ m := fun m hm => by simp [G.setρ, hm]
  have hoN : ∀ b o, ownO (g.setρ n w.heap.size) n ob b o → b = w.heap.size := by
    intro b o ho
    cases ob with
    | tail sz => exact absurd rfl (ht sz)
    | cells vs => have : b = _ := ho; simpa [G.setρ] using this
    | iter s pos => have : b = _ := ho; simpa [G.setρ] using this
  refine ⟨⟨?_, ?_, ?_, ?_⟩, ?_⟩
  · intro m pb hm
    rw [lk_lset] at hm
    split at hm
    · rename_i e; subst e; simp at hm; subst hm; exact hob
    · rename_i e
      refine ObRel.mono (g := g) (w := w) (h := h.ob m pb hm) (fun _ _ hs => hs) (fun b o hs => cell_other (hold b (h.lt hs))) (hsame m (Ne.symm e)) (fun k hk => hsame k fun e => hr (e ▸ hpRefs_mem hm hk)) fun b ⟨o, ho⟩ => hold b (own_lt h hm ho)
  · rintro b o hs ⟨m, pb, hm, ho⟩
    rw [lk_lset] at hm
    split at hm
    · rename_i e; subst e; simp at hm; subst hm
      have := hoN b o ho
      have := h.lt hs
      omega
    · rename_i e
      exact h.sep b o hs ⟨m, pb, hm, (own_same (hsame m (Ne.symm e)) b o).1 ho⟩
  · intro m m' ob1 ob2 h1 h2 hne b o ho1 ho2
    rw [lk_lset] at h1 h2
    split at h1
    · rename_i e; subst e; simp at h1; subst h1
      split at h2
      · rename_i e; exact hne e
      · rename_i e
        have := hoN b o ho1
        have := own_lt h h2 ((own_same (hsame m' (Ne.symm e)) b o).1 ho2)
        omega
    · rename_i e1
      split at h2
      · rename_i e; subst e; simp at h2; subst h2
        have := hoN b o ho2
        have := own_lt h h1 ((own_same (hsame m (Ne.symm e1)) b o).1 ho1)
        omega
      · rename_i e2
        exact h.dis m m' ob1 ob2 h1 h2 hne b o ((own_same (hsame m (Ne.symm e1)) b o).1 ho1) ((own_same (hsame m' (Ne.symm e2)) b o).1 ho2)
  · intro b o hs
    obtain ⟨v, hv⟩ := h.ex b o hs
    exact ⟨v, (cell_other (hold b (h.lt hs))).trans hv⟩
  · refine ⟨rfl, rfl, rfl, by simp, fun b hb _ => hold b hb, fun b f hb _ => cell_other (hold b hb), ?_, fun _ _ hs => hs, fun _ _ hs => .inl hs, ?_⟩
    · intro b c e fr hc
      exact ⟨c, (hold b (Array.getElem?_eq_some_iff.1 hc).1).trans hc, rfl⟩
    · rintro b o ⟨m, pb, hm, ho⟩
      rw [lk_lset] at hm
      split at hm
      · rename_i e; subst e; simp at hm; subst hm
        exact .inr (by have := hoN b o ho; omega)
      · rename_i e
        exact .inl ⟨m, pb, hm, (own_same (hsame m (Ne.symm e)) b o).1 ho⟩

/-- An object of our own is written, in its place. -/
theorem SimH.put {g : G} {hp : Hp} {w : World} (h : SimH g hp w) {n : Nat} {ob0 : Ob} (hn : lk hp n = some ob0) (ht0 : ∀ sz, ob0 ≠ .tail sz) (obj : Obj) (ob : Ob) (ht : ∀ sz, ob ≠ .tail sz)
    (hshp : ∀ (c : Array Value) (e : TypeId) (fr : Nat × Nat), w.heap[g.ρ n]? = some (.cells c e fr) → ∃ c' : Array Value, obj = .cells c' e fr ∧ c'.size = c.size)
    (hob : ObRel g (wr w (g.ρ n) obj) n ob) :
    SimH g (lset hp n ob) (wr w (g.ρ n) obj) ∧ Ev (Own g hp) (Own g (lset hp n ob)) g g w (wr w (g.ρ n) obj) := by
  have ho0 : ∀ o, ownO g n ob0 (g.ρ n) o := fun o => by
    cases ob0 with
    | tail sz => exact absurd rfl (ht0 sz)
    | cells vs => exact rfl
    | iter s pos => exact rfl
  have hoN : ∀ b o, ownO g n ob b o → b = g.ρ n := by
    intro b o ho
    cases ob with
    | tail sz => exact absurd rfl (ht sz)
    | cells vs => exact ho
    | iter s pos => exact ho
  have hlt : g.ρ n < w.heap.size := own_lt h hn (ho0 0)
  have hold : ∀ k, k ≠ g.ρ n → (wr w (g.ρ n) obj).heap[k]? = w.heap[k]? := fun k hk => by rw [wr_heap hlt, if_neg (Ne.symm hk)]
  have hSb : ∀ b o, g.S b o → b ≠ g.ρ n := fun b o hs e => h.sep b o hs ⟨n, ob0, hn, e ▸ ho0 o⟩
  refine ⟨⟨?_, ?_, ?_, ?_⟩, ?_⟩
  · intro m pb hm
    rw [lk_lset] at hm
    split at hm
    · rename_i e; subst e; simp at hm; subst hm; exact hob
    · rename_i e
      exact ObRel.mono (g := g) (w := w) (h := h.ob m pb hm) (fun _ _ hs => hs) (fun b o hs => cell_other (hold b (hSb b o hs))) ⟨rfl, rfl⟩ (fun k hk => ⟨rfl, rfl⟩) fun b ⟨o, ho⟩ => hold b fun e' => h.dis m n pb ob0 hm hn (Ne.symm e) b o ho (e' ▸ ho0 o)
  · rintro b o hs ⟨m, pb, hm, ho⟩
    rw [lk_lset] at hm
    split at hm
    · rename_i e; subst e; simp at hm; subst hm
      exact hSb b o hs (hoN b o ho)
    · exact h.sep b o hs ⟨m, pb, hm, ho⟩
  · intro m m' ob1 ob2 h1 h2 hne b o ho1 ho2
    rw [lk_lset] at h1 h2
    split at h1
    · rename_i e; subst e; simp at h1; subst h1
      split at h2
      · rename_i e; exact hne e
      · rename_i e
        exact h.dis n m' ob0 ob2 hn h2 e b o (hoN b o ho1 ▸ ho0 o) ho2
    · rename_i e1
      split at h2
      · rename_i e; subst e; simp at h2; subst h2
        exact h.dis m n ob1 ob0 h1 hn (Ne.symm e1) b o ho1 (hoN b o ho2 ▸ ho0 o)
      · exact h.dis m m' ob1 ob2 h1 h2 hne b o ho1 ho2
  · intro b o hs
    obtain ⟨v, hv⟩ := h.ex b o hs
    exact ⟨v, (cell_other (hold b (hSb b o hs))).trans hv⟩
  · refine ⟨rfl, rfl, rfl, by simp [wr], fun b hb hf => hold b fun e => hf 0 ⟨n, ob0, hn, e ▸ ho0 0⟩, fun b f hb hf => cell_other (hold b fun e => hf ⟨n, ob0, hn, e ▸ ho0 f⟩), ?_, fun _ _ hs => hs, fun _ _ hs => .inl hs, ?_⟩
    · intro b c e fr hc
      by_cases hb : b = g.ρ n
      · subst hb
        obtain ⟨c', h1, h2⟩ := hshp c e fr hc
        exact ⟨c', by rw [wr_heap hlt, if_pos rfl, h1], h2⟩
      · exact ⟨c, (hold b hb).trans hc, rfl⟩
    · rintro b o ⟨m, pb, hm, ho⟩
      rw [lk_lset] at hm
      split at hm
      · rename_i e; subst e; simp at hm; subst hm
        exact .inl ⟨n, ob0, hn, hoN b o ho ▸ ho0 o⟩
      · exact .inl ⟨m, pb, hm, ho⟩

/-- A new block whose first cells are sealed; behind them is room under a name. -/
theorem SimH.newTail {g : G} {hp : Hp} {w : World} (h : SimH g hp w) {n : Nat} (hn : ∀ ob, lk hp n = some ob → ∃ sz, ob = .tail sz) (hr : n ∉ hpRefs hp) (c : Array Value) (e : TypeId) (fr : Nat × Nat) (k room sz : Nat)
    (hsz : 0 < sz) (hc : k + room * sz ≤ c.size) (hfr : ∀ j, j < c.size → ¬ (fr.1 ≤ j ∧ j < fr.2)) :
    SimH ((g.setτ n ⟨w.heap.size, k, room, sz⟩).seal fun b o => b = w.heap.size ∧ o < k) (lset hp n (.tail sz)) (w.alloc (.cells c e fr)) ∧
    Ev (Own g hp) (Own ((g.setτ n ⟨w.heap.size, k, room, sz⟩).seal fun b o => b = w.heap.size ∧ o < k) (lset hp n (.tail sz))) g ((g.setτ n ⟨w.heap.size, k, room, sz⟩).seal fun b o => b = w.heap.size ∧ o < k) w (w.alloc (.cells c e fr)) := by
  have hold : ∀ k, k < w.heap.size → (w.alloc (.cells c e fr)).heap[k]? = w.heap[k]? := fun k hk => by
    show (w.heap.push _)[k]? = _
    rw [Array.getElem?_push, if_neg (by omega)]
  have hnew : (w.alloc (.cells c e fr)).heap[w.heap.size]? = some (.cells c e fr) := by
    show (w.heap.push _)[_]? = _
    simp
  generalize hg' : ((g.setτ n ⟨w.heap.size, k, room, sz⟩).seal fun b o => b = w.heap.size ∧ o < k) = g'
  have hsame : ∀ m, m ≠ n → g'.ρ m = g.ρ m ∧ g'.τ m = g.τ m := fun m hm => by subst hg'; simp [G.setτ, G.seal, hm]
  have hτ : g'.τ n = ⟨w.heap.size, k, room, sz⟩ := by subst hg'; simp [G.setτ, G.seal]
  have hS : ∀ b o, g'.S b o ↔ g.S b o ∨ (b = w.heap.size ∧ o < k) := by subst hg'; simp [G.setτ, G.seal]
  have hoN : ∀ b o, ownO g' n (.tail sz) b o → b = w.heap.size ∧ k ≤ o := by
    intro b o ho
    simp only [ownO, hτ] at ho
    exact ⟨ho.2.1, ho.2.2.1⟩
  refine ⟨⟨?_, ?_, ?_, ?_⟩, ?_⟩
  · intro m pb hm
    rw [lk_lset] at hm
    split at hm
    · rename_i e; subst e; simp at hm; subst hm
      refine ⟨by rw [hτ], hsz, fun _ => ⟨c, _, fr, by rw [hτ]; exact hnew, by rw [hτ]; exact hc, hfr⟩⟩
    · rename_i e
      refine ObRel.mono (g := g) (w := w) (h := h.ob m pb hm) (fun b o hs => (hS b o).2 (.inl hs)) (fun b o hs => cell_other (hold b (h.lt hs))) (hsame m (Ne.symm e)) (fun k hk => hsame k fun e => hr (e ▸ hpRefs_mem hm hk)) fun b ⟨o, ho⟩ => hold b (own_lt h hm ho)
  · rintro b o hs ⟨m, pb, hm, ho⟩
    rw [lk_lset] at hm
    rw [hS] at hs
    split at hm
    · rename_i e; subst e; simp at hm; subst hm
      have := hoN b o ho
      rcases hs with hs | hs
      · have := h.lt hs; omega
      · omega
    · rename_i e
      have ho' := (own_same (hsame m (Ne.symm e)) b o).1 ho
      rcases hs with hs | hs
      · exact h.sep b o hs ⟨m, pb, hm, ho'⟩
      · have := own_lt h hm ho'; omega
  · intro m m' ob1 ob2 h1 h2 hne b o ho1 ho2
    rw [lk_lset] at h1 h2
    split at h1
    · rename_i e; subst e; simp at h1; subst h1
      split at h2
      · rename_i e; exact hne e
      · rename_i e
        have := hoN b o ho1
        have := own_lt h h2 ((own_same (hsame m' (Ne.symm e)) b o).1 ho2)
        omega
    · rename_i e1
      split at h2
      · rename_i e; subst e; simp at h2; subst h2
        have := hoN b o ho2
        have := own_lt h h1 ((own_same (hsame m (Ne.symm e1)) b o).1 ho1)
        omega
      · rename_i e2
        exact h.dis m m' ob1 ob2 h1 h2 hne b o ((own_same (hsame m (Ne.symm e1)) b o).1 ho1) ((own_same (hsame m' (Ne.symm e2)) b o).1 ho2)
  · intro b o hs
    rw [hS] at hs
    rcases hs with hs | hs
    · obtain ⟨v, hv⟩ := h.ex b o hs
      exact ⟨v, (cell_other (hold b (h.lt hs))).trans hv⟩
    · rw [hs.1, cell_of hnew]
      have : o < c.size := by omega
      exact ⟨c[o], by simp [this]⟩
  · refine ⟨rfl, rfl, rfl, by simp, fun b hb _ => hold b hb, fun b f hb _ => cell_other (hold b hb), ?_, fun b o hs => (hS b o).2 (.inl hs), ?_, ?_⟩
    · intro b c e fr hc
      exact ⟨c, (hold b (Array.getElem?_eq_some_iff.1 hc).1).trans hc, rfl⟩
    · intro b o hs
      rw [hS] at hs
      rcases hs with hs | hs
      · exact .inl hs
      · exact .inr (.inr (by omega))
    · rintro b o ⟨m, pb, hm, ho⟩
      rw [lk_lset] at hm
      split at hm
      · rename_i e; subst e; simp at hm; subst hm
        exact .inr (by have := hoN b o ho; omega)
      · rename_i e
        exact .inl ⟨m, pb, hm, (own_same (hsame m (Ne.symm e)) b o).1 ho⟩

/-- The first cells of a room are written and sealed. -/
theorem SimH.fill {g : G} {hp : Hp} {w : World} (h : SimH g hp w) {n sz : Nat} (hn : lk hp n = some (.tail sz)) (hr : n ∉ hpRefs hp) (m : Nat) (hm0 : 0 < m) (hm : m ≤ (g.τ n).room)
    (c c' : Array Value) (e : TypeId) (fr : Nat × Nat) (hb : w.heap[(g.τ n).block]? = some (.cells c e fr)) (hcs : c'.size = c.size)
    (hco : ∀ j, ¬ ((g.τ n).off ≤ j ∧ j < (g.τ n).off + m * sz) → c'[j]? = c[j]?) :
    SimH ((g.setτ n ⟨(g.τ n).block, (g.τ n).off + m * sz, (g.τ n).room - m, sz⟩).seal fun b o => b = (g.τ n).block ∧ (g.τ n).off ≤ o ∧ o < (g.τ n).off + m * sz) hp (wr w (g.τ n).block (.cells c' e fr)) ∧
    Ev (Own g hp) (Own ((g.setτ n ⟨(g.τ n).block, (g.τ n).off + m * sz, (g.τ n).room - m, sz⟩).seal fun b o => b = (g.τ n).block ∧ (g.τ n).off ≤ o ∧ o < (g.τ n).off + m * sz) hp) g
      ((g.setτ n ⟨(g.τ n).block, (g.τ n).off + m * sz, (g.τ n).room - m, sz⟩).seal fun b o => b = (g.τ n).block ∧ (g.τ n).off ≤ o ∧ o < (g.τ n).off + m * sz) w (wr w (g.τ n).block (.cells c' e fr)) := by
  obtain ⟨hsz1, hsz0, hin⟩ := h.ob n _ hn
  obtain ⟨c0, e0, fr0, hb0, hroom, hfr⟩ := hin (by omega)
  rw [hb] at hb0
  simp only [Option.some.injEq, Obj.cells.injEq] at hb0
  obtain ⟨rfl, rfl, rfl⟩ := hb0
  generalize hB : (g.τ n).block = B at *
  generalize hO : (g.τ n).off = O at *
  generalize hR : (g.τ n).room = R at *
  have hlt : B < w.heap.size := (Array.getElem?_eq_some_iff.1 hb).1
  have hms : m * sz ≤ R * sz := Nat.mul_le_mul_right _ hm
  have hsub : (R - m) * sz = R * sz - m * sz := Nat.sub_mul _ _ _
  generalize hg' : ((g.setτ n ⟨B, O + m * sz, R - m, sz⟩).seal fun b o => b = B ∧ O ≤ o ∧ o < O + m * sz) = g'
  have hsame : ∀ k, k ≠ n → g'.ρ k = g.ρ k ∧ g'.τ k = g.τ k := fun m hm => by subst hg'; simp [G.setτ, G.seal, hm]
  have hτ : g'.τ n = ⟨B, O + m * sz, R - m, sz⟩ := by subst hg'; simp [G.setτ, G.seal]
  have hS : ∀ b o, g'.S b o ↔ g.S b o ∨ (b = B ∧ O ≤ o ∧ o < O + m * sz) := by subst hg'; simp [G.setτ, G.seal]
  have hown : ∀ o, O ≤ o → o < O + R * sz → ownO g n (.tail sz) B o := fun o h1 h2 => ⟨by omega, hB.symm, by rw [hO]; exact h1, by rw [hO, hR, hsz1]; exact h2⟩
  have hoN : ∀ b o, ownO g' n (.tail sz) b o → b = B ∧ O + m * sz ≤ o ∧ o < O + R * sz := by
    intro b o ho
    simp only [ownO, hτ] at ho
    exact ⟨ho.2.1, ho.2.2.1, by have := ho.2.2.2; omega⟩
  have hold : ∀ k, k ≠ B → (wr w B (.cells c' e fr)).heap[k]? = w.heap[k]? := fun k hk => by rw [wr_heap hlt, if_neg (Ne.symm hk)]
  have hnew : (wr w B (.cells c' e fr)).heap[B]? = some (.cells c' e fr) := by rw [wr_heap hlt, if_pos rfl]
  have hcell : ∀ b o, ¬ ownO g n (.tail sz) b o → (wr w B (.cells c' e fr)).cell? ⟨b, o, none⟩ = w.cell? ⟨b, o, none⟩ := by
    intro b o ho
    by_cases hbb : b = B
    · subst hbb
      rw [cell_of hnew, cell_of hb]
      exact hco o fun hx => ho (hown o hx.1 (by omega))
    · exact cell_other (hold b hbb)
  have hScell : ∀ b o, g.S b o → (wr w B (.cells c' e fr)).cell? ⟨b, o, none⟩ = w.cell? ⟨b, o, none⟩ := fun b o hs => hcell b o fun ho => h.sep b o hs ⟨n, _, hn, ho⟩
  refine ⟨⟨?_, ?_, ?_, ?_⟩, ?_⟩
  · intro k pb hk
    by_cases ek : k = n
    · subst ek
      rw [hn] at hk; simp at hk; subst hk
      exact ⟨by rw [hτ], hsz0, fun _ => ⟨c', _, fr, by rw [hτ]; exact hnew, by rw [hτ, hcs]; simp only; omega, by rw [hcs]; exact hfr⟩⟩
    · have hk0 := h.ob k pb hk
      have hrk : ∀ j ∈ pb.refs, g'.ρ j = g.ρ j ∧ g'.τ j = g.τ j := fun j hj => hsame j fun e => hr (e ▸ hpRefs_mem hk hj)
      have hsk := hsame k ek
      cases pb with
      | cells vs =>
        refine hk0.mono (fun b o hs => (hS b o).2 (.inl hs)) hScell hsk hrk fun b ⟨o, ho⟩ => hold b fun e => ?_
        exact h.dis k n _ _ hk hn ek B O (by subst e; exact ho) (hown O (Nat.le_refl _) (by have : 0 < R * sz := Nat.mul_pos (by omega) hsz0; omega))
      | iter s pos =>
        refine hk0.mono (fun b o hs => (hS b o).2 (.inl hs)) hScell hsk hrk fun b ⟨o, ho⟩ => hold b fun e => ?_
        exact h.dis k n _ _ hk hn ek B O (by subst e; exact ho) (hown O (Nat.le_refl _) (by have : 0 < R * sz := Nat.mul_pos (by omega) hsz0; omega))
      | tail sz' =>
        obtain ⟨a1, a0, a2⟩ := hk0
        refine ⟨by rw [hsk.2]; exact a1, a0, ?_⟩
        rw [hsk.2]
        intro hroom'
        obtain ⟨c1, e1, fr1, b1, b2, b3⟩ := a2 hroom'
        by_cases eB : (g.τ k).block = B
        · rw [eB] at b1 ⊢
          rw [hb] at b1
          simp only [Option.some.injEq, Obj.cells.injEq] at b1
          obtain ⟨rfl, rfl, rfl⟩ := b1
          exact ⟨c', _, fr, hnew, by rw [hcs]; exact b2, by rw [hcs]; exact b3⟩
        · exact ⟨c1, e1, fr1, (hold _ eB).trans b1, b2, b3⟩
  · rintro b o hs ⟨k, pb, hk, ho⟩
    rw [hS] at hs
    by_cases ek : k = n
    · subst ek
      rw [hn] at hk; simp at hk; subst hk
      have h1 := hoN b o ho
      rcases hs with hs | hs
      · exact h.sep b o hs ⟨k, _, hn, h1.1 ▸ hown o (by omega) h1.2.2⟩
      · omega
    · have ho' := (own_same (hsame k ek) b o).1 ho
      rcases hs with hs | hs
      · exact h.sep b o hs ⟨k, pb, hk, ho'⟩
      · exact h.dis k n pb _ hk hn ek b o ho' (hs.1 ▸ hown o hs.2.1 (by omega))
  · intro k k' ob1 ob2 h1 h2 hne b o ho1 ho2
    by_cases e1 : k = n
    · subst e1
      rw [hn] at h1; simp at h1; subst h1
      have hx := hoN b o ho1
      exact h.dis k k' _ ob2 hn h2 hne b o (hx.1 ▸ hown o (by omega) hx.2.2) ((own_same (hsame k' (Ne.symm hne)) b o).1 ho2)
    · by_cases e2 : k' = n
      · subst e2
        rw [hn] at h2; simp at h2; subst h2
        have hx := hoN b o ho2
        exact h.dis k k' ob1 _ h1 hn hne b o ((own_same (hsame k hne) b o).1 ho1) (hx.1 ▸ hown o (by omega) hx.2.2)
      · exact h.dis k k' ob1 ob2 h1 h2 hne b o ((own_same (hsame k e1) b o).1 ho1) ((own_same (hsame k' e2) b o).1 ho2)
  · intro b o hs
    rw [hS] at hs
    rcases hs with hs | hs
    · obtain ⟨v, hv⟩ := h.ex b o hs
      exact ⟨v, (hScell b o hs).trans hv⟩
    · rw [hs.1, cell_of hnew]
      have : o < c'.size := by omega
      exact ⟨c'[o], by simp [this]⟩
  · refine ⟨rfl, rfl, rfl, by simp [wr], fun b hb' hf => hold b fun e => hf O ⟨n, _, hn, e ▸ hown O (Nat.le_refl _) (by have : 0 < R * sz := Nat.mul_pos (by omega) hsz0; omega)⟩, fun b f hb' hf => hcell b f fun ho => hf ⟨n, _, hn, ho⟩, ?_, fun b o hs => (hS b o).2 (.inl hs), ?_, ?_⟩
    · intro b c1 e1 fr1 hc1
      by_cases hbb : b = B
      · subst hbb
        rw [hb] at hc1
        simp only [Option.some.injEq, Obj.cells.injEq] at hc1
        obtain ⟨rfl, rfl, rfl⟩ := hc1
        exact ⟨c', hnew, hcs⟩
      · exact ⟨c1, (hold b hbb).trans hc1, rfl⟩
    · intro b o hs
      rw [hS] at hs
      rcases hs with hs | hs
      · exact .inl hs
      · exact .inr (.inl ⟨n, _, hn, hs.1 ▸ hown o hs.2.1 (by omega)⟩)
    · rintro b o ⟨k, pb, hk, ho⟩
      by_cases ek : k = n
      · subst ek
        rw [hn] at hk; simp at hk; subst hk
        have hx := hoN b o ho
        exact .inl ⟨k, _, hn, hx.1 ▸ hown o (by omega) hx.2.2⟩
      · exact .inl ⟨k, pb, hk, (own_same (hsame k ek) b o).1 ho⟩

/-- Less is known of memory of our own. -/
theorem SimH.less {g : G} {hp hp' : Hp} {w : World} (h : SimH g hp w) (hs : ∀ n ob, lk hp' n = some ob → lk hp n = some ob) : SimH g hp' w ∧ ∀ b o, Own g hp' b o → Own g hp b o := by
  have ho : ∀ b o, Own g hp' b o → Own g hp b o := fun b o ⟨n, ob, hn, ho⟩ => ⟨n, ob, hs n ob hn, ho⟩
  exact ⟨⟨fun n ob hn => h.ob n ob (hs n ob hn), fun b o h1 h2 => h.sep b o h1 (ho b o h2), fun n m ob pb h1 h2 => h.dis n m ob pb (hs _ _ h1) (hs _ _ h2), h.ex⟩, ho⟩
theorem SimH.world {g : G} {hp : Hp} {w w' : World} (h : SimH g hp w) (hw : w'.heap = w.heap) : SimH g hp w' := by
  have hc : ∀ b o, w'.cell? ⟨b, o, none⟩ = w.cell? ⟨b, o, none⟩ := fun b o => by simp [World.cell?, hw]
  refine ⟨fun n ob hn => (h.ob n ob hn).mono (fun _ _ hs => hs) (fun b o _ => hc b o) ⟨rfl, rfl⟩ (fun _ _ => ⟨rfl, rfl⟩) (fun b _ => by rw [hw]), h.sep, h.dis, fun b o hs => by rw [hc]; exact h.ex b o hs⟩
end Go.Wl

