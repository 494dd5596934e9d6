/- Values and memory told without addresses: what is written no more. -/
import Derived.Test.YthmiekppdhmbiaaWlT
set_option linter.unusedVariables false
set_option linter.unusedSimpArgs false
namespace Go.Wl
variable {P : Program}
theorem wd_int (k : IntKind) (n : Int) : D.width (.int k n) = 1 := rfl
theorem cl_int (k : IntKind) (n : Int) : D.cells (.int k n) = [.int k n] := rfl
theorem wd_bool (b : Bool) : D.width (.bool b) = 1 := rfl
theorem cl_bool (b : Bool) : D.cells (.bool b) = [.bool b] := rfl
theorem wd_str (b : List UInt8) : D.width (.str b) = 1 := rfl
theorem cl_str (b : List UInt8) : D.cells (.str b) = [.str b] := rfl
theorem wd_nilp  : D.width (.nilp) = 1 := rfl
theorem cl_nilp  : D.cells (.nilp) = [.nilp] := rfl
theorem wd_nilfunc  : D.width (.nilfunc) = 1 := rfl
theorem cl_nilfunc  : D.cells (.nilfunc) = [.nilfunc] := rfl
theorem wd_nilif  : D.width (.nilif) = 1 := rfl
theorem cl_nilif  : D.cells (.nilif) = [.nilif] := rfl
theorem wd_list (l : List D) : D.width (.list l) = 1 := rfl
theorem cl_list (l : List D) : D.cells (.list l) = [.list l] := rfl
theorem wd_cptr (x : D) : D.width (.cptr x) = 1 := rfl
theorem cl_cptr (x : D) : D.cells (.cptr x) = [.cptr x] := rfl
theorem wd_iface (t : TypeId) (x : D) : D.width (.iface t x) = 1 := rfl
theorem cl_iface (t : TypeId) (x : D) : D.cells (.iface t x) = [.iface t x] := rfl
theorem wd_func (f : Fn) (a c : List D) : D.width (.func f a c) = 1 := rfl
theorem cl_func (f : Fn) (a c : List D) : D.cells (.func f a c) = [.func f a c] := rfl
theorem wd_agg (l : List D) : D.width (.agg l) = l.length := rfl
theorem cl_agg (l : List D) : D.cells (.agg l) = l := rfl

/-- An own object that one slot knows becomes data. -/
theorem WC_seal {K : List Nat} {s s' : St} {c : Cc} {Q : Exit → St → Prop} (t n : Nat) (x : D) (ht : s.get t = .ptr n 0) (hn : lk s.hp n = some (.cells (x.cells.map .d))) (hf : (bif tmHas n (ldel s.tm t) then true else hpHas n s.hp) = false) (hK : memb K n = false)
    (hs' : ∀ q, ({ s with tm := lset s.tm t (.d (.cptr x)), hp := ldel s.hp n } : St) = q → q = s') (h : WC P K c s' Q) : WC P K c s Q := fun cc hc g a w hki hs => by
  have hs' := hs' _ rfl
  subst hs'
  obtain ⟨hr0, hr⟩ := noref hf
  have hnt : ∀ i, i ≠ t → n ∉ (s.get i).refs := fun i hi hd => hr0 (refs_ldel hi hd)
  have hnK : n ∉ K := fun hm => by rw [(memb_iff _ _).2 hm] at hK; cases hK
  obtain ⟨cs, e, fr, hb, hl, hfz, hv⟩ := hs.hp.ob n _ hn
  rw [List.length_map] at hl
  have hcell : ∀ o, o < cs.size → w.cell? ⟨g.ρ n, o, none⟩ = some (cs.getD o undef) := fun o ho => by rw [cell_of hb]; simp [ho]
  let g2 : G := g.seal fun b o => b = g.ρ n ∧ o < x.cells.length
  have hS : ∀ b o, g.S b o → g2.S b o := fun b o h => .inl h
  have hlk : ∀ m ob, lk (ldel s.hp n) m = some ob → m ≠ n ∧ lk s.hp m = some ob := fun m ob hm => by
    rw [lk_ldel] at hm
    split at hm
    · cases hm
    · rename_i hne; exact ⟨Ne.symm hne, hm⟩
  have hO : ∀ b o, Own g2 (ldel s.hp n) b o → Own g s.hp b o := fun b o ⟨m, ob, hm, ho⟩ => ⟨m, ob, (hlk m ob hm).2, by cases ob <;> exact ho⟩
  have hown : ∀ b o, b = g.ρ n → Own g s.hp b o := fun b o e => ⟨n, _, hn, e⟩
  have hH : SimH g2 (ldel s.hp n) w := by
    refine ⟨fun m ob hm => ?_, fun b o h1 h2 => ?_, fun m p o1 o2 h1 h2 hne b o q1 q2 => ?_, fun b o h1 => ?_⟩
    · exact ObRel.mono hS (fun _ _ _ => rfl) ⟨rfl, rfl⟩ (fun _ _ => ⟨rfl, rfl⟩) (fun _ _ => rfl) (hs.hp.ob m ob (hlk m ob hm).2)
    · rcases h1 with h1 | ⟨rfl, _⟩
      · exact hs.hp.sep b o h1 (hO b o h2)
      · obtain ⟨m, ob, hm, ho⟩ := h2
        obtain ⟨hne, hm⟩ := hlk m ob hm
        exact hs.hp.dis n m _ ob hn hm (Ne.symm hne) (g.ρ n) o rfl (by cases ob <;> exact ho)
    · exact hs.hp.dis m p o1 o2 (hlk _ _ h1).2 (hlk _ _ h2).2 hne b o (by cases o1 <;> exact q1) (by cases o2 <;> exact q2)
    · rcases h1 with h1 | ⟨rfl, h1⟩
      · exact hs.hp.ex b o h1
      · exact ⟨_, hcell o (by omega)⟩
  have hsim : Sim g2 { s with tm := lset s.tm t (.d (.cptr x)), hp := ldel s.hp n } a w := by
    refine ⟨hs.n, hs.df, fun i => ?_, hH⟩
    have hi := hs.tm i
    unfold St.get
    simp only [lk_lset]
    by_cases e : t = i
    · subst e
      rw [if_pos rfl]
      rw [ht] at hi
      generalize a.tmps.getD t undef = v at hi
      cases hi with
      | ptr =>
        refine .d (.cptr (fun j => cs.getD j undef) (fun j c hj => ?_) fun j c hj => ?_)
        · have hjl := (List.getElem?_eq_some_iff.1 hj).1
          exact ⟨.inr ⟨rfl, by simpa using hjl⟩, by rw [Nat.zero_add]; exact hcell j (by omega)⟩
        · have := hv j (.d c) (by simp [hj])
          show Rep g2.S w (cs.getD j undef) c
          generalize cs.getD j undef = u at this
          cases this with
          | d h => exact h.mono hS fun _ _ _ => rfl
    · rw [if_neg e]
      exact Rel.mono (g := g) (w := w) (g' := g2) hS (fun _ _ _ => rfl) hi fun _ _ => ⟨rfl, rfl⟩
  have hKi : KIn K (ldel s.hp n) := fun m hm => by
    obtain ⟨ob, h1, h2⟩ := hki m hm
    exact ⟨ob, by rw [lk_ldel, if_neg (fun e : n = m => hnK (e ▸ hm))]; exact h1, h2⟩
  have hto : To K g s.hp w g2 (ldel s.hp n) w := ⟨⟨rfl, rfl, rfl, Nat.le_refl _, fun _ _ _ => rfl, fun _ _ _ _ => rfl, fun _ c _ _ h => ⟨c, h, rfl⟩, hS, fun b f h => by
    rcases h with h | ⟨h, _⟩
    · exact .inl h
    · exact .inr (.inl (hown b f h)), fun b f h => .inl (hO b f h)⟩, fun _ _ => ⟨rfl, rfl⟩, hKi⟩
  exact wp_mono (h cc hc _ a w hKi hsim) fun e a' w' ⟨s2, g', q1, q2, q3⟩ => ⟨s2, g', q1, hto.trans q2, q3⟩
end Go.Wl

