/- Values and memory told without addresses: a cell that will grow. -/
import Derived.Test.YthmiekppdhmbiaaWlU
set_option linter.unusedVariables false
set_option linter.unusedSimpArgs false
namespace Go.Wl
variable {P : Program}

/-- A nil slice in a cell of an own object, seen as a list that grows in place. -/
theorem WC_claimC {K : List Nat} {s s' : St} {c : Cc} {Q : Exit → St → Prop} (n j t m k : Nat) {vs : List AV} (hk : 0 < k) (ht : s.get t = .any) (hn : lk s.hp n = some (.cells vs)) (hj : vs[j]? = some .nils) (hf : freshN s t m = true)
    (hs' : ∀ q, ({ s with hp := lset (lset s.hp m (.tail k)) n (.cells (vs.set j (.sl m []))) } : St) = q → q = s') (h : WC P K c s' Q) : WC P K c s Q := fun cc hc g a w hK hs => by
  have hs' := hs' _ rfl
  subst hs'
  obtain ⟨hnt, hr, htl⟩ := freshN_spec hf
  obtain ⟨hA, hB⟩ := hs.hp.noRoom htl hr k hk
  have hnm : n ≠ m := fun e => by
    subst e
    obtain ⟨sz, h3⟩ := htl _ hn
    cases h3
  have hmK : m ∉ K := fun hm => by
    obtain ⟨ob, h1, h2⟩ := hK m hm
    obtain ⟨sz, h3⟩ := htl ob h1
    exact h2 sz h3
  have hsame : ∀ n, n ≠ m → (g.setτ m ⟨0, 0, 0, k⟩).ρ n = g.ρ n ∧ (g.setτ m ⟨0, 0, 0, k⟩).τ n = g.τ n := fun n hn => by simp [G.setτ, hn]
  have hn1 : lk (lset s.hp m (.tail k)) n = some (.cells vs) := by rw [lk_lset, if_neg (Ne.symm hnm)]; exact hn
  have hO : ∀ b o, Own (g.setτ m ⟨0, 0, 0, k⟩) (lset (lset s.hp m (.tail k)) n (.cells (vs.set j (.sl m [])))) b o → Own (g.setτ m ⟨0, 0, 0, k⟩) (lset s.hp m (.tail k)) b o := fun b o ⟨p, ob, h1, h2⟩ => by
    rw [lk_lset] at h1
    split at h1
    · rename_i e
      subst e
      cases h1
      exact ⟨n, _, hn1, h2⟩
    · exact ⟨p, ob, h1, h2⟩
  have hlk : ∀ p ob, lk (lset (lset s.hp m (.tail k)) n (.cells (vs.set j (.sl m [])))) p = some ob → ∃ ob', lk (lset s.hp m (.tail k)) p = some ob' ∧ ∀ b o, ownO (g.setτ m ⟨0, 0, 0, k⟩) p ob b o → ownO (g.setτ m ⟨0, 0, 0, k⟩) p ob' b o := fun p ob h1 => by
    rw [lk_lset] at h1
    split at h1
    · rename_i e
      subst e
      cases h1
      exact ⟨_, hn1, fun _ _ h => h⟩
    · exact ⟨ob, h1, fun _ _ h => h⟩
  have hA2 : SimH (g.setτ m ⟨0, 0, 0, k⟩) (lset (lset s.hp m (.tail k)) n (.cells (vs.set j (.sl m [])))) w := by
    refine ⟨fun p ob hp => ?_, fun b o h1 h2 => hA.sep b o h1 (hO b o h2), fun p q o1 o2 h1 h2 hne b o q1 q2 => ?_, hA.ex⟩
    · rw [lk_lset] at hp
      split at hp
      · rename_i e
        subst e
        cases hp
        obtain ⟨cs, e, fr, r1, r2, r3, r4⟩ := hA.ob n _ hn1
        refine ⟨cs, e, fr, r1, by rw [List.length_set]; exact r2, r3, fun j' x hx => ?_⟩
        by_cases e : j = j'
        · subst e
          have hjl := (List.getElem?_eq_some_iff.1 hj).1
          rw [List.getElem?_set_self hjl] at hx
          cases hx
          have hi := r4 j .nils hj
          generalize cs.getD j undef = v at hi
          cases hi with
          | nils => exact .sl (.list 0 (fun _ _ => undef) rfl (Nat.le_refl _) (by simp) (by simp) (by simp) (by simp)) (by simp) (by simp [G.setτ]) (fun h0 => by simp [G.setτ] at h0)
        · rw [List.getElem?_set_ne e] at hx
          exact r4 j' x hx
      · exact hA.ob p ob hp
    · obtain ⟨p1, e1, f1⟩ := hlk p o1 h1
      obtain ⟨p2, e2, f2⟩ := hlk q o2 h2
      exact hA.dis p q p1 p2 e1 e2 hne b o (f1 b o q1) (f2 b o q2)
  have hsim : Sim (g.setτ m ⟨0, 0, 0, k⟩) { s with hp := lset (lset s.hp m (.tail k)) n (.cells (vs.set j (.sl m []))) } a w := by
    refine ⟨hs.n, hs.df, fun i => ?_, hA2⟩
    have hi := hs.tm i
    refine Rel.mono (g := g) (w := w) (g' := g.setτ m ⟨0, 0, 0, k⟩) (fun _ _ h => h) (fun _ _ _ => rfl) hi fun n hn => hsame n fun e' => ?_
    by_cases e : i = t
    · subst e
      have hn : n ∈ (s.get i).refs := hn
      rw [ht] at hn; cases hn
    · exact hnt i e (e' ▸ hn)
  have hKi : KIn K (lset (lset s.hp m (.tail k)) n (.cells (vs.set j (.sl m [])))) := fun p hp => by
    obtain ⟨ob, h1, h2⟩ := hK p hp
    by_cases e : n = p
    · subst e
      exact ⟨_, by rw [lk_lset, if_pos rfl], fun sz => by simp⟩
    · exact ⟨ob, by rw [lk_lset, if_neg e, lk_lset, if_neg (fun e : m = p => hmK (e ▸ hp))]; exact h1, h2⟩
  have hto : To K g s.hp w (g.setτ m ⟨0, 0, 0, k⟩) (lset (lset s.hp m (.tail k)) n (.cells (vs.set j (.sl m [])))) w := ⟨Ev.world rfl rfl rfl rfl (fun _ _ => Iff.rfl) (fun b o h => hB b o (hO b o h)), fun n hn => hsame n fun e => hmK (e ▸ hn), hKi⟩
  exact wp_mono (h cc hc _ a w hKi hsim) fun e a' w' ⟨s2, g', q1, q2, q3⟩ => ⟨s2, g', q1, hto.trans q2, q3⟩
end Go.Wl

