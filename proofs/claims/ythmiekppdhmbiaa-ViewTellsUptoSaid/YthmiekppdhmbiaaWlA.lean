/- Values and memory told without addresses: an append's soundness. -/
import Derived.Test.YthmiekppdhmbiaaWl9
set_option linter.unusedVariables false
set_option linter.unusedSimpArgs false
namespace Go.Wl
variable {P : Program}

/-- A slot takes a value; the world has gone on. -/
theorem Sim.upd {g g' : G} {s : St} {a : Act} {w w' : World} (h : Sim g s a w) (d : Nat) (hd : d < s.n) {v : Value} {x : AV} {hp' : Hp} (hS : ∀ b o, g.S b o → g'.S b o) (hw : ∀ b o, g.S b o → w'.cell? ⟨b, o, none⟩ = w.cell? ⟨b, o, none⟩)
    (hn : ∀ i, i ≠ d → ∀ n ∈ (s.get i).refs, g'.ρ n = g.ρ n ∧ g'.τ n = g.τ n) (hv : Rel g' w' v x) (hh : SimH g' hp' w') : Sim g' { s with tm := lset s.tm d x, hp := hp' } (a.put (some d) v) w' := by
  refine ⟨by simp [Act.put, h.n], h.df, fun i => ?_, hh⟩
  unfold St.get Act.put
  simp only [lk_lset]
  by_cases e : d = i
  · subst e
    rw [if_pos rfl]
    have : (a.tmps.setIfInBounds d v).getD d undef = v := by simp [h.n, hd]
    rw [this]; exact hv
  · rw [if_neg e]
    have h1 : (a.tmps.setIfInBounds d v).getD i undef = a.tmps.getD i undef := by simp [Array.getElem?_setIfInBounds_ne e]
    rw [h1]
    exact (h.tm i).mono hS hw (hn i (Ne.symm e))
theorem refs_ldel {s : St} {d i n : Nat} (hi : i ≠ d) (h : n ∈ (s.get i).refs) : n ∈ tmRefs (ldel s.tm d) := by
  have : ({ s with tm := ldel s.tm d } : St).get i = s.get i := by
    unfold St.get
    simp only [lk_ldel, if_neg (Ne.symm hi)]
  exact get_refs (s := { s with tm := ldel s.tm d }) (by rw [this]; exact h)

theorem noref {d : Nat} {tm : List (Nat × AV)} {hp : Hp} (h : (bif tmHas d tm then true else hpHas d hp) = false) : d ∉ tmRefs tm ∧ d ∉ hpRefs hp := by
  cases ht : tmHas d tm
  · rw [ht] at h; exact ⟨tmHas_spec ht, hpHas_spec h⟩
  · rw [ht] at h; cases h
/-- The name of what is made for a slot. -/
def St.nmOf (s : St) (d : Nat) : Nat := match lk s.nm d with
  | some n => n
  | none => d
def freshN (s : St) (d n : Nat) : Bool := !(bif tmHas n (ldel s.tm d) then true else hpHas n s.hp) && (match lk s.hp n with | none => true | some (.tail _) => true | _ => false)
theorem freshN_spec {s : St} {d n : Nat} (h : freshN s d n = true) : (∀ i, i ≠ d → n ∉ (s.get i).refs) ∧ n ∉ hpRefs s.hp ∧ ∀ ob, lk s.hp n = some ob → ∃ sz, ob = .tail sz := by
  unfold freshN at h
  simp only [Bool.and_eq_true, Bool.not_eq_true'] at h
  obtain ⟨h1, h0⟩ := noref h.1
  refine ⟨fun i hi hd => h1 (refs_ldel hi hd), h0, fun ob hob => ?_⟩
  have := h.2
  rw [hob] at this
  cases ob with
  | tail sz => exact ⟨sz, rfl⟩
  | _ => cases this

def aappend (P : Program) (s : St) (d : Nat) (t0 t1 : TypeId) (x y : AV) : Option St :=
  match apd P t0 with
  | some (_, k, by_) => (match apSrc P t0 t1 y with
    | some ys => bif ys.all (fun c => Nat.beq c.width k && c.cells.all D.one) && ltb d s.n then (match x with
        | .sl n xs => (match lk s.hp n with
          | some (.tail sz) => bif Nat.beq sz k && !(bif tmHas n (ldel (s.untag n).tm d) then true else hpHas n (s.untag n).hp) then
               (if (xs.length + ys.length) * by_ ≤ 140737488355328 then some { (s.untag n) with tm := lset (s.untag n).tm d (.sl n (xs ++ ys)) } else none)
             else none
          | _ => none)
        | x => (match (match x with | .lit xs => some xs | .nils => some [] | _ => none : Option (List D)) with
          | some xs => bif xs.all (fun c => Nat.beq c.width k) && freshN s d (s.nmOf d) then
               (if (xs.length + ys.length) * by_ ≤ 140737488355328 then some { s with tm := lset s.tm d (.sl (s.nmOf d) (xs ++ ys)), hp := lset s.hp (s.nmOf d) (.tail k) } else none)
             else none
          | none => none)) else none
    | none => none)
  | none => none

/-- Room of no element. -/
theorem SimH.noRoom {g : G} {hp : Hp} {w : World} (h : SimH g hp w) {n : Nat} (hn : ∀ ob, lk hp n = some ob → ∃ sz, ob = .tail sz) (hr : n ∉ hpRefs hp) (sz : Nat) (hsz : 0 < sz) :
    SimH (g.setτ n ⟨0, 0, 0, sz⟩) (lset hp n (.tail sz)) w ∧ ∀ b o, Own (g.setτ n ⟨0, 0, 0, sz⟩) (lset hp n (.tail sz)) b o → Own g hp b o := by
  have hsame : ∀ m, m ≠ n → (g.setτ n ⟨0, 0, 0, sz⟩).ρ m = g.ρ m ∧ (g.setτ n ⟨0, 0, 0, sz⟩).τ m = g.τ m := fun m hm => by simp [G.setτ, hm]
  have hno : ∀ b o, ¬ ownO (g.setτ n ⟨0, 0, 0, sz⟩) n (.tail sz) b o := fun b o ho => by simp [ownO, G.setτ] at ho
  have ho : ∀ b o, Own (g.setτ n ⟨0, 0, 0, sz⟩) (lset hp n (.tail sz)) b o → Own g hp b o := by
    rintro b o ⟨m, pb, hm, ho⟩
    rw [lk_lset] at hm
    split at hm
    · rename_i e; subst e; simp at hm; subst hm; exact absurd ho (hno b o)
    · rename_i e; exact ⟨m, pb, hm, (own_same (hsame m (Ne.symm e)) b o).1 ho⟩
  refine ⟨⟨fun m pb hm => ?_, fun b o hs hO => h.sep b o hs (ho b o hO), fun m m' o1 o2 h1 h2 hne b o ho1 ho2 => ?_, h.ex⟩, ho⟩
  · rw [lk_lset] at hm
    split at hm
    · rename_i e; subst e; simp at hm; subst hm
      exact ⟨by simp [G.setτ], hsz, fun h0 => by simp [G.setτ] at h0⟩
    · rename_i e
      exact ObRel.mono (g := g) (w := w) (h := h.ob m pb hm) (fun _ _ hs => hs) (fun _ _ _ => rfl) (hsame m (Ne.symm e)) (fun k hk => hsame k fun e => hr (e ▸ hpRefs_mem hm hk)) (fun _ _ => rfl)
  · rw [lk_lset] at h1 h2
    split at h1
    · rename_i e; subst e; simp at h1; subst h1; exact hno b o ho1
    · rename_i e1
      split at h2
      · rename_i e; subst e; simp at h2; subst h2; exact hno b o ho2
      · rename_i e2
        exact h.dis m m' o1 o2 h1 h2 hne b o ((own_same (hsame m (Ne.symm e1)) b o).1 ho1) ((own_same (hsame m' (Ne.symm e2)) b o).1 ho2)

/-- What names of objects stand for stays. -/
def Names (g : G) (hp : Hp) (g' : G) (hp' : Hp) : Prop := ∀ n ob, lk hp n = some ob → (∀ sz, ob ≠ .tail sz) → (g'.ρ n = g.ρ n ∧ g'.τ n = g.τ n) ∧ ∃ ob', lk hp' n = some ob' ∧ ∀ sz, ob' ≠ .tail sz
theorem Names.refl (g : G) (hp : Hp) : Names g hp g hp := fun n ob h ht => ⟨⟨rfl, rfl⟩, ob, h, ht⟩
theorem Names.trans {g g' g'' : G} {hp hp' hp'' : Hp} (h : Names g hp g' hp') (k : Names g' hp' g'' hp'') : Names g hp g'' hp'' := fun n ob hn ht => by
  obtain ⟨e, ob', hn', ht'⟩ := h n ob hn ht
  obtain ⟨e2, r⟩ := k n ob' hn' ht'
  exact ⟨⟨e2.1.trans e.1, e2.2.trans e.2⟩, r⟩
theorem Names.ofTail {g g' : G} {hp : Hp} {d : Nat} {ob : Ob} (hd : ∀ ob, lk hp d = some ob → ∃ sz, ob = .tail sz) (hρ : ∀ n, n ≠ d → g'.ρ n = g.ρ n ∧ g'.τ n = g.τ n) : Names g hp g' (lset hp d ob) := fun n ob0 hn ht => by
  have hne : n ≠ d := fun e => by subst e; obtain ⟨sz, e⟩ := hd ob0 hn; exact ht sz e
  exact ⟨hρ n hne, ob0, by rw [lk_lset, if_neg (Ne.symm hne)]; exact hn, ht⟩
theorem Names.ofUntag {g g' : G} {hp : Hp} (n : Nat) (hρ : ∀ m ob, lk hp m = some ob → (∀ sz, ob ≠ .tail sz) → g'.ρ m = g.ρ m ∧ g'.τ m = g.τ m) : Names g hp g' (hpMap (Ob.untag n) hp) := fun m ob hm ht =>
  ⟨hρ m ob hm ht, ob.untag n, by rw [lk_hpMap, hm]; rfl, fun sz e => by cases ob <;> simp [Ob.untag] at e; exact ht _ rfl⟩
theorem Names.ofPut {g : G} {hp : Hp} {d : Nat} {ob : Ob} (ho : ∀ sz, ob ≠ .tail sz) : Names g hp g (lset hp d ob) := fun n ob0 hn ht => by
  by_cases hne : d = n
  · exact ⟨⟨rfl, rfl⟩, ob, by rw [lk_lset, if_pos hne], ho⟩
  · exact ⟨⟨rfl, rfl⟩, ob0, by rw [lk_lset, if_neg hne]; exact hn, ht⟩

theorem Ev.world {o o' : Nat → Nat → Prop} {g g' : G} {w w' : World} (hos : w'.os = w.os) (ht : w'.tape = w.tape) (hou : w'.output = w.output) (hh : w'.heap = w.heap) (hS : ∀ b f, g'.S b f ↔ g.S b f) (ho : ∀ b f, o' b f → o b f) : Ev o o' g g' w w' :=
  ⟨hos, ht, hou, by rw [hh]; exact Nat.le_refl _, fun b _ _ => by rw [hh], fun b f _ _ => by simp [World.cell?, hh], fun b c e fr hc => ⟨c, by rw [hh]; exact hc, rfl⟩, fun b f hs => (hS b f).2 hs, fun b f hs => .inl ((hS b f).1 hs), fun b f hs => .inl (ho b f hs)⟩

/-- A new row behind an append. -/
theorem grow_sound {g : G} {s : St} {a : Act} {w : World} (h : Sim g s a w) {d n : Nat} (hd : d < s.n) (hn : ∀ ob, lk s.hp n = some ob → ∃ sz, ob = .tail sz) (hr : n ∉ hpRefs s.hp) (hnt : ∀ i, i ≠ d → n ∉ (s.get i).refs)
    {k : Nat} (hk0 : 0 < k) {xs ys : List D} (hxw : ∀ x ∈ xs, x.width = k) (hyw : ∀ x ∈ ys, x.width = k) (olds news : List Value) (ho : olds.length = xs.length * k) (hnn : news.length = ys.length * k)
    (h1 : ∀ i x j c, xs[i]? = some x → x.cells[j]? = some c → Rep g.S w (olds.getD (i * k + j) undef) c) (h2 : ∀ i x j c, ys[i]? = some x → x.cells[j]? = some c → Rep g.S w (news.getD (i * k + j) undef) c)
    (z : Array Value) (hz : z.size = k) (e : TypeId) (cap : Nat) (hcap : xs.length + ys.length ≤ cap) (q : Nat) :
    ∃ g', Sim g' { s with tm := lset s.tm d (.sl n (xs ++ ys)), hp := lset s.hp n (.tail k) } (a.put (some d) (.slice (some ⟨w.heap.size, 0, none⟩) (xs.length + ys.length) cap)) (({ w with drawn := q } : World).alloc (.cells (olds.toArray ++ news.toArray ++ Builtin.zeroCells z (cap - (xs.length + ys.length))) e)) ∧
      Ev (Own g s.hp) (Own g' (lset s.hp n (.tail k))) g g' w (({ w with drawn := q } : World).alloc (.cells (olds.toArray ++ news.toArray ++ Builtin.zeroCells z (cap - (xs.length + ys.length))) e)) ∧ ∀ m, m ≠ n → g'.ρ m = g.ρ m ∧ g'.τ m = g.τ m := by
  generalize hw1 : ({ w with drawn := q } : World) = w1
  have hh1 : w1.heap = w.heap := by subst hw1; rfl
  have hS1 : SimH g s.hp w1 := h.hp.world hh1
  generalize hL : xs.length + ys.length = L at *
  have hLk : xs.length * k + ys.length * k = L * k := by rw [← Nat.add_mul, hL]
  have hck : cap * k = L * k + (cap - L) * k := by rw [← Nat.add_mul]; congr 1; omega
  have hsize : (olds.toArray ++ news.toArray ++ Builtin.zeroCells z (cap - L)).size = cap * k := by
    simp only [Array.size_append, List.size_toArray, size_zeroCells, ho, hnn, hz]; omega
  generalize hc : (olds.toArray ++ news.toArray ++ Builtin.zeroCells z (cap - L)) = c at *
  have hget : ∀ j, j < L * k → c.getD j undef = if j < xs.length * k then olds.getD j undef else news.getD (j - xs.length * k) undef := by
    intro j hj
    subst hc
    have h3 : j < (olds.toArray ++ news.toArray).size := by simp only [Array.size_append, List.size_toArray, ho, hnn]; omega
    rw [Array.getD_eq_getD_getElem?, Array.getElem?_append_left h3]
    by_cases h4 : j < xs.length * k
    · rw [if_pos h4, Array.getElem?_append_left (by simp only [List.size_toArray, ho]; exact h4)]; simp [List.getD]
    · rw [if_neg h4, Array.getElem?_append_right (by simp only [List.size_toArray, ho]; omega)]; simp [List.getD, ho]
  obtain ⟨hA, hB⟩ := hS1.newTail hn hr c e (0, 0) (L * k) (cap - L) k hk0 (by rw [hsize]; omega) (fun j _ => by simp)
  rw [hh1] at hA hB
  generalize hg' : ((g.setτ n ⟨w.heap.size, L * k, cap - L, k⟩).seal fun b o => b = w.heap.size ∧ o < L * k) = g' at hA hB
  have hsame : ∀ m, m ≠ n → g'.ρ m = g.ρ m ∧ g'.τ m = g.τ m := fun m hm => by subst hg'; simp [G.setτ, G.seal, hm]
  have hτ : g'.τ n = ⟨w.heap.size, L * k, cap - L, k⟩ := by subst hg'; simp [G.setτ, G.seal]
  have hS : ∀ b o, g.S b o → g'.S b o := by subst hg'; exact fun b o h => .inl h
  have hSn : ∀ o, o < L * k → g'.S w.heap.size o := by subst hg'; exact fun o h => .inr ⟨rfl, h⟩
  have hcell : ∀ b o, g.S b o → (w1.alloc (.cells c e)).cell? ⟨b, o, none⟩ = w.cell? ⟨b, o, none⟩ := fun b o hs => (hB.sealed hS1 b o hs).trans (by simp [World.cell?, hh1])
  have hrep : Rep g'.S (w1.alloc (.cells c e)) (.slice (some ⟨w.heap.size, 0, none⟩) L cap) (.list (xs ++ ys)) := by
    refine rep_mk (by simpa using hL) hcap (fun x hx => (List.mem_append.1 hx).elim (hxw x) (hyw x)) (fun j => c.getD j undef) (fun j hj => ⟨by rw [Nat.zero_add]; exact hSn j hj, ?_⟩) (fun i x j cc hi hj => ?_)
    · have hb : (w1.alloc (.cells c e)).heap[w.heap.size]? = some (.cells c e (0, 0)) := by
        show (w1.heap.push _)[_]? = _
        rw [hh1]; simp
      rw [cell_of hb]
      have h5 : (L + (cap - L)) * k = L * k + (cap - L) * k := Nat.add_mul _ _ _
      have : 0 + j < c.size := by omega
      simp [this, show j < c.size by omega]
    · have h3 := lt_of_get hi
      have h4 := lt_of_get hj
      have h5 : x.cells.length = k := (List.mem_append.1 (List.mem_of_getElem? hi)).elim (hxw x) (hyw x)
      simp only [List.length_append, hL] at h3
      have h6 : (i + 1) * k ≤ L * k := Nat.mul_le_mul_right _ (by omega)
      rw [Nat.add_mul] at h6
      rw [hget _ (by omega)]
      by_cases hi2 : i < xs.length
      · have h7 : (i + 1) * k ≤ xs.length * k := Nat.mul_le_mul_right _ (by omega)
        rw [Nat.add_mul] at h7
        rw [if_pos (by omega)]
        rw [List.getElem?_append_left hi2] at hi
        exact (h1 i x j cc hi hj).mono hS hcell
      · have h7 : xs.length * k ≤ i * k := Nat.mul_le_mul_right _ (by omega)
        rw [if_neg (by omega), show i * k + j - xs.length * k = (i - xs.length) * k + j by rw [Nat.sub_mul]; omega]
        rw [List.getElem?_append_right (by omega)] at hi
        exact (h2 _ x j cc hi hj).mono hS hcell
  refine ⟨g', ?_, ?_, hsame⟩
  · refine h.upd d hd hS hcell (fun i hi m hm => hsame m fun e => hnt i hi (e ▸ hm)) ?_ hA
    refine .sl hrep (fun x hx => by rw [hτ]; exact (List.mem_append.1 hx).elim (hxw x) (hyw x)) (by rw [hτ]; simp only; omega) fun _ => ?_
    rw [hτ]
    exact ⟨_, _, rfl, rfl, by simp⟩
  · have hE : Ev (Own g s.hp) (Own g s.hp) g g w w1 := by subst hw1; exact Ev.world rfl rfl rfl rfl (fun _ _ => Iff.rfl) (fun _ _ h => h)
    exact hE.trans hB
end Go.Wl

