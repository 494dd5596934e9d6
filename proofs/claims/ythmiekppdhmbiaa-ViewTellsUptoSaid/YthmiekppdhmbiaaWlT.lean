/- Values and memory told without addresses: lists that will grow. -/
import Derived.Test.YthmiekppdhmbiaaWlS
set_option linter.unusedVariables false
set_option linter.unusedSimpArgs false
namespace Go.Wl
variable {P : Program}

/-- A nil slice, seen as a list that grows in place: of no room yet. -/
theorem WC_claim {K : List Nat} {s s' : St} {c : Cc} {Q : Exit → St → Prop} (t m k : Nat) (hk : 0 < k) (ht : s.get t = .nils) (hf : freshN s t m = true) (hs' : ∀ q, ({ s with tm := lset s.tm t (.sl m []), hp := lset s.hp m (.tail k) } : St) = q → q = s') (h : WC P K c s' Q) : WC P K c s Q := fun cc hc g a w hK hs => by
  have hs' := hs' _ rfl
  subst hs'
  obtain ⟨hnt, hr, htl⟩ := freshN_spec hf
  obtain ⟨hA, hB⟩ := hs.hp.noRoom htl hr k hk
  have hmK : m ∉ K := fun hm => by
    obtain ⟨ob, h1, h2⟩ := hK m hm
    obtain ⟨sz, h3⟩ := htl ob h1
    exact h2 sz h3
  have hsame : ∀ n, n ≠ m → (g.setτ m ⟨0, 0, 0, k⟩).ρ n = g.ρ n ∧ (g.setτ m ⟨0, 0, 0, k⟩).τ n = g.τ n := fun n hn => by simp [G.setτ, hn]
  have hsim : Sim (g.setτ m ⟨0, 0, 0, k⟩) { s with tm := lset s.tm t (.sl m []), hp := lset s.hp m (.tail k) } a w := by
    refine ⟨hs.n, hs.df, fun i => ?_, hA⟩
    have hi := hs.tm i
    unfold St.get
    simp only [lk_lset]
    by_cases e : t = i
    · subst e
      rw [if_pos rfl]
      rw [ht] at hi
      generalize a.tmps.getD t undef = v at hi
      cases hi with
      | nils => exact .sl (.list 0 (fun _ _ => undef) rfl (Nat.le_refl _) (by simp) (by simp) (by simp) (by simp)) (by simp) (by simp [G.setτ]) (fun h0 => by simp [G.setτ] at h0)
    · rw [if_neg e]
      exact Rel.mono (g := g) (w := w) (g' := g.setτ m ⟨0, 0, 0, k⟩) (fun _ _ h => h) (fun _ _ _ => rfl) hi fun n hn => hsame n fun e' => hnt i (Ne.symm e) (e' ▸ hn)
  have hKi : KIn K (lset s.hp m (.tail k)) := fun n hn => by
    obtain ⟨ob, h1, h2⟩ := hK n hn
    exact ⟨ob, by rw [lk_lset, if_neg (fun e : m = n => hmK (e ▸ hn))]; exact h1, h2⟩
  have hto : To K g s.hp w (g.setτ m ⟨0, 0, 0, k⟩) (lset s.hp m (.tail k)) w := ⟨Ev.world rfl rfl rfl rfl (fun _ _ => Iff.rfl) hB, fun n hn => hsame n fun e => hmK (e ▸ hn), hKi⟩
  exact wp_mono (h cc hc _ a w hKi hsim) fun e a' w' ⟨s2, g', q1, q2, q3⟩ => ⟨s2, g', q1, hto.trans q2, q3⟩
end Go.Wl

