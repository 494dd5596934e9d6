/- Values and memory told without addresses: an append's soundness, the whole. -/
import Derived.Test.YthmiekppdhmbiaaWlA
set_option linter.unusedVariables false
set_option linter.unusedSimpArgs false
namespace Go.Wl
variable {P : Program}

theorem rep_width0 {S : Nat → Nat → Prop} {w : World} {a : Option Addr} {len cap : Nat} {xs : List D} (h : Rep S w (.slice a len cap) (.list xs)) : 0 < cap → ∃ b o, a = some ⟨b, o, none⟩ := by
  cases h with
  | list sz vals hl hc hs hw hm hr => exact hs
/-- The cells of a source, as values in order. -/
theorem rep_olds {S : Nat → Nat → Prop} {w : World} {a : Option Addr} {len cap k : Nat} {xs : List D} (h : Rep S w (.slice a len cap) (.list xs)) (hk : ∀ x ∈ xs, x.width = k) (hk0 : 0 < k) :
    ∃ olds : List Value, olds.length = xs.length * k ∧ (∀ w', w'.heap = w.heap → (Builtin.firstCells k len (.slice a len cap)).run P w' = .ok olds.toArray w') ∧
      ∀ i x j c, xs[i]? = some x → x.cells[j]? = some c → Rep S w (olds.getD (i * k + j) undef) c := by
  obtain ⟨e1, e2⟩ := rep_len h
  obtain ⟨f, hf1, hf2⟩ := rep_cells h hk hk0
  refine ⟨(List.range (len * k)).map f, by simp [e1], fun w' hw' => ?_, fun i x j c hi hj => ?_⟩
  · cases a with
    | none =>
      have : len * k = 0 := by
        rcases Nat.eq_zero_or_pos (len * k) with h | h
        · exact h
        · obtain ⟨b, o, h', _⟩ := hf1 0 h; cases h'
      rw [this]; simp [Builtin.firstCells]
    | some ad =>
      refine run_firstCells_some (P := P) w' k len ad len cap _ (by simp) fun j v hj => ?_
      have hlt := lt_of_get hj
      simp at hlt
      obtain ⟨b, o, h', _, hcell⟩ := hf1 j hlt
      simp only [Option.some.injEq] at h'; subst h'
      simp only [List.getElem?_map, List.getElem?_range hlt, Option.map_some, Option.some.injEq] at hj
      subst hj
      rw [Addr.add_lit, cell_other (w := w) (by rw [hw']), hcell]
  · have h2 := lt_of_get hi
    have h3 := lt_of_get hj
    have h4 := hk x (List.mem_of_getElem? hi)
    unfold D.width at h4
    have h5 : (i + 1) * k ≤ len * k := Nat.mul_le_mul_right _ (by omega)
    rw [Nat.add_mul] at h5
    have hlt : i * k + j < len * k := by omega
    have := hf2 i x j c hi hj
    simpa [List.getD, hlt] using this

/-- The room takes what is appended. -/
theorem fits_sound {g : G} {s : St} {a : Act} {w : World} (h : Sim g s a w) {d n k : Nat} (hd : d < s.n) (hn : lk s.hp n = some (.tail k)) (hr : n ∉ hpRefs s.hp) (hnt : ∀ i, i ≠ d → n ∉ (s.get i).refs)
    (hk0 : 0 < k) {xs ys : List D} (hyw : ∀ x ∈ ys, x.width = k) {a0 : Option Addr} {len cap : Nat} (hx : Rel g w (.slice a0 len cap) (.sl n xs)) (news : List Value) (hnn : news.length = ys.length * k)
    (h2 : ∀ i x j c, ys[i]? = some x → x.cells[j]? = some c → Rep g.S w (news.getD (i * k + j) undef) c) (hone : ∀ v ∈ news, v.oneCell' = true) (hfit : len + ys.length ≤ cap) :
    ∃ w' g', (∀ ad, a0 = some ad → (storeCells (ad.add (len * k)) news).run P w = .ok () w') ∧ (a0 = none → w' = w) ∧
      Sim g' { s with tm := lset s.tm d (.sl n (xs ++ ys)) } (a.put (some d) (.slice a0 (len + ys.length) cap)) w' ∧ Ev (Own g s.hp) (Own g' s.hp) g g' w w' ∧ ∀ m, m ≠ n → g'.ρ m = g.ρ m ∧ g'.τ m = g.τ m := by
  cases hx with
  | sl hrep hw hc hp =>
    obtain ⟨e1, e2⟩ := rep_len hrep
    obtain ⟨t1, t0, t2⟩ := h.hp.ob n _ hn
    rcases Nat.eq_zero_or_pos ys.length with hy0 | hy0
    · have : ys = [] := List.eq_nil_of_length_eq_zero hy0
      subst this
      have hnews : news = [] := List.eq_nil_of_length_eq_zero (by simpa using hnn)
      subst hnews
      refine ⟨w, g, fun _ _ => rfl, fun _ => rfl, ?_, Ev.refl _ _ _, fun _ _ => ⟨rfl, rfl⟩⟩
      rw [List.append_nil]
      exact h.upd d hd (fun _ _ hs => hs) (fun _ _ _ => rfl) (fun _ _ _ _ => ⟨rfl, rfl⟩) (.sl hrep hw hc hp) h.hp
    · have hroom : 0 < (g.τ n).room := by omega
      obtain ⟨b, o, rfl, hb, ho⟩ := hp hroom
      rw [t1] at ho
      obtain ⟨c, e, fr, hblk, hcs, hfr⟩ := t2 hroom
      rw [← hb] at hblk
      have hms : ys.length * k ≤ (g.τ n).room * k := Nat.mul_le_mul_right _ (by omega)
      have hle : o + len * k + news.length ≤ c.size := by rw [ho, hnn]; omega
      have hst := run_stores (P := P) b (o + len * k) e fr news 0 c w hblk (by omega) hfr hone
      rw [Nat.add_zero] at hst
      have hput := putA_get news c (o + len * k)
      obtain ⟨hA, hB⟩ := h.hp.fill hn hr ys.length hy0 (by omega) c (putA c (o + len * k) news) e fr (by rw [← hb]; exact hblk) (putA_size _ _ _) (fun j hj => by
        rw [hput j hle, if_neg]; rw [hnn, ho]; exact hj)
      rw [← hb] at hA hB
      generalize hg' : ((g.setτ n ⟨b, (g.τ n).off + ys.length * k, (g.τ n).room - ys.length, k⟩).seal fun b' o' => b' = b ∧ (g.τ n).off ≤ o' ∧ o' < (g.τ n).off + ys.length * k) = g' at hA hB
      have hsame : ∀ m, m ≠ n → g'.ρ m = g.ρ m ∧ g'.τ m = g.τ m := fun m hm => by subst hg'; simp [G.setτ, G.seal, hm]
      have hτ : g'.τ n = ⟨b, (g.τ n).off + ys.length * k, (g.τ n).room - ys.length, k⟩ := by subst hg'; simp [G.setτ, G.seal]
      have hS : ∀ b o, g.S b o → g'.S b o := by subst hg'; exact fun b o h => .inl h
      have hSn : ∀ q, q < ys.length * k → g'.S b (o + len * k + q) := by subst hg'; exact fun q hq => .inr ⟨rfl, by omega, by omega⟩
      have hcell := fun b' o' hs => hB.sealed h.hp b' o' hs
      have hlt : b < w.heap.size := (Array.getElem?_eq_some_iff.1 hblk).1
      have hnewb : (wr w b (.cells (putA c (o + len * k) news) e fr)).heap[b]? = some (.cells (putA c (o + len * k) news) e fr) := by rw [wr_heap hlt, if_pos rfl]
      have hxw : ∀ x ∈ xs, x.width = k := fun x hx => (hw x hx).trans t1
      obtain ⟨f, hf1, hf2⟩ := rep_cells hrep hxw hk0
      refine ⟨_, g', fun ad had => ?_, fun h0 => by simp at h0, ?_, hB, hsame⟩
      · simp only [Option.some.injEq] at had; subst had
        rw [Addr.add_lit]; exact hst
      · refine h.upd d hd hS hcell (fun i hi m hm => hsame m fun e => hnt i hi (e ▸ hm)) ?_ hA
        have hrep' : Rep g'.S (wr w b (.cells (putA c (o + len * k) news) e fr)) (.slice (some ⟨b, o, none⟩) (len + ys.length) cap) (.list (xs ++ ys)) := by
          refine rep_mk (by simp [e1]) hfit (fun x hx => (List.mem_append.1 hx).elim (hxw x) (hyw x)) (fun j => if j < len * k then f j else news.getD (j - len * k) undef) (fun j hj => ?_) (fun i x j cc hi hj => ?_)
          · rw [Nat.add_mul] at hj
            by_cases h4 : j < len * k
            · obtain ⟨b', o', he, hs, hcc⟩ := hf1 j h4
              simp only [Option.some.injEq, Addr.mk.injEq] at he
              obtain ⟨rfl, rfl, _⟩ := he
              rw [if_pos h4]
              exact ⟨hS _ _ hs, (hcell _ _ hs).trans hcc⟩
            · have h5 : o + j = o + len * k + (j - len * k) := by omega
              rw [if_neg h4, h5]
              refine ⟨hSn _ (by omega), ?_⟩
              rw [cell_of hnewb, hput _ hle, if_pos (by omega)]
              have : o + len * k + (j - len * k) - (o + len * k) = j - len * k := by omega
              rw [this]
              have h6 : j - len * k < news.length := by omega
              simp [List.getD, h6]
          · have h3 := lt_of_get hi
            have h4 := lt_of_get hj
            have h5 : x.cells.length = k := (List.mem_append.1 (List.mem_of_getElem? hi)).elim (hxw x) (hyw x)
            by_cases hi2 : i < xs.length
            · have h7 : (i + 1) * k ≤ len * k := Nat.mul_le_mul_right _ (by omega)
              rw [Nat.add_mul] at h7
              rw [if_pos (by omega)]
              rw [List.getElem?_append_left hi2] at hi
              exact (hf2 i x j cc hi hj).mono hS hcell
            · have h7 : len * k ≤ i * k := Nat.mul_le_mul_right _ (by omega)
              rw [if_neg (by omega), show i * k + j - len * k = (i - len) * k + j by rw [Nat.sub_mul]; omega]
              rw [List.getElem?_append_right (by omega), e1] at hi
              exact (h2 _ x j cc hi hj).mono hS hcell
        refine .sl hrep' (fun x hx => by rw [hτ]; exact (List.mem_append.1 hx).elim (hxw x) (hyw x)) (by rw [hτ]; simp only; omega) fun _ => ?_
        rw [hτ]
        exact ⟨_, _, rfl, rfl, by simp only; rw [Nat.add_mul]; omega⟩

theorem aappend_sound {g : G} {s s' : St} {a : Act} {w : World} (h : Sim g s a w) {d : Nat} {t0 t1 ty : TypeId} {x y : AV} {vx vy : Value} (hx : Rel g w vx x) (hy : Rel g w vy y) (ha : aappend P s d t0 t1 x y = some s') :
    ∃ u w' g', (Builtin.append_ #[t0, t1] ty #[vx, vy]).run P w = .ok u w' ∧ Sim g' s' (a.put (some d) u) w' ∧ Ev (Own g s.hp) (Own g' s'.hp) g g' w w' ∧ Names g s.hp g' s'.hp := by
  unfold aappend at ha
  split at ha
  · rename_i e k by_ hap
    split at ha
    · rename_i ys hys
      cases hall : (ys.all (fun c => Nat.beq c.width k && c.cells.all D.one) && ltb d s.n)
      · rw [hall] at ha; cases ha
      · rw [hall] at ha
        simp only [cond_true] at ha
        simp only [Bool.and_eq_true, List.all_eq_true] at hall
        obtain ⟨hall, hd⟩ := hall
        have hd : d < s.n := Nat.le_of_ble_eq_true hd
        have hyw : ∀ c ∈ ys, c.width = k := fun c hc => Nat.eq_of_beq_eq_true (hall c hc).1
        have hy1 : ∀ c ∈ ys, ∀ q ∈ c.cells, q.one = true := fun c hc => (hall c hc).2
        obtain ⟨hu, i, z, hi, hz, hzs, hks, hbs, hk0, hb0⟩ := apd_spec hap
        obtain ⟨hT, news, hnn, hlen, hfirst, hone, hnrep⟩ := apSrc_run (P := P) hy hys hyw hk0 hy1
        split at ha
        · rename_i n xs
          split at ha
          · rename_i sz hn
            cases hcnd : (Nat.beq sz k && !(bif tmHas n (ldel (s.untag n).tm d) then true else hpHas n (s.untag n).hp))
            · rw [hcnd] at ha; cases ha
            · rw [hcnd] at ha
              simp only [cond_true] at ha
              split at ha
              · rename_i hbound
                simp only [Option.some.injEq] at ha; subst ha
                simp only [Bool.and_eq_true, Bool.not_eq_true'] at hcnd
                obtain ⟨hszk, hrefs⟩ := hcnd
                have hszk := Nat.eq_of_beq_eq_true hszk
                subst hszk
                obtain ⟨hrefs1, hrefs2⟩ := noref hrefs
                have h1 := h.untag n
                have hE0 : Ev (Own g s.hp) (Own g (s.untag n).hp) g g w w := Ev.world rfl rfl rfl rfl (fun _ _ => Iff.rfl) (fun b f hb => ((h.hp.untag n).2 b f).1 hb)
                have hn1 : lk (s.untag n).hp n = some (.tail sz) := by
                  show lk (hpMap (Ob.untag n) s.hp) n = _
                  rw [lk_hpMap, hn]; rfl
                have hr1 : n ∉ hpRefs (s.untag n).hp := hrefs2
                have hnt1 : ∀ i, i ≠ d → n ∉ ((s.untag n).get i).refs := fun i hi hm => hrefs1 (refs_ldel hi hm)
                have hNm : ∀ g' : G, (∀ m, m ≠ n → g'.ρ m = g.ρ m ∧ g'.τ m = g.τ m) → Names g s.hp g' (s.untag n).hp := fun g' e => Names.ofUntag n fun m ob hm ht => e m fun e => by subst e; rw [hn] at hm; exact ht _ (Option.some.inj hm).symm
                cases hx with
                | @sl a0 len cap _ _ hrep hw hc hp =>
                  obtain ⟨e1, e2⟩ := rep_len hrep
                  by_cases hfit : len + ys.length ≤ cap
                  · obtain ⟨w', g', hs1, hs2, hsim, hev, hρ⟩ := fits_sound (P := P) h1 hd hn1 hr1 hnt1 hk0 hyw (.sl hrep hw hc hp) news hnn hnrep hone hfit
                    exact ⟨_, w', g', append_fits hap hT w w' a0 len cap ys.length vy news hlen (hfirst w rfl).2 hfit hs1 hs2, hsim, hE0.trans hev, hNm g' hρ⟩
                  · have hxw : ∀ x ∈ xs, x.width = sz := fun x hx => (hw x hx).trans (h.hp.ob n _ hn).1
                    obtain ⟨olds, ho1, ho2, ho3⟩ := rep_olds (P := P) hrep hxw hk0
                    obtain ⟨z, hz, hrun⟩ := append_grows (ty := ty) hap hT w a0 len cap ys.length vy news olds hlen (hfirst w.drew rfl).2 (ho2 w.drew rfl) (by omega) (by rw [← e1]; exact hbound)
                    have hge := grownCap_ge w (len + ys.length) cap e
                    obtain ⟨g', hsim, hev, hρ⟩ := grow_sound h1 hd (fun ob hob => by rw [hn1] at hob; exact ⟨sz, (Option.some.inj hob).symm⟩) hr1 hnt1 hk0 hxw hyw olds news ho1 hnn ho3 hnrep z.cells hz e (grownCap w (len + ys.length) cap e) (by omega) (w.drawn + 1)
                    rw [e1] at hsim hev
                    refine ⟨_, _, g', hrun, ?_, ?_, ?_⟩
                    · refine ⟨hsim.n, hsim.df, hsim.tm, ?_⟩
                      have := hsim.hp
                      refine (this.less fun m ob hm => ?_).1
                      rw [lk_lset]
                      by_cases hmn : n = m
                      · subst hmn; rw [if_pos rfl]; rw [hn1] at hm; exact hm
                      · rw [if_neg hmn]; exact hm
                    · refine hE0.trans (hev.trans (Ev.world rfl rfl rfl rfl (fun _ _ => Iff.rfl) fun b f ⟨m, ob, hm, ho⟩ => ⟨m, ob, ?_, ho⟩))
                      rw [lk_lset]
                      by_cases hmn : n = m
                      · subst hmn; rw [if_pos rfl]; rw [hn1] at hm; exact hm
                      · rw [if_neg hmn]; exact hm
                    · exact hNm g' hρ
              · cases ha
          · cases ha
        · rename_i xx _
          split at ha
          · rename_i xs hxs
            cases hcnd : (xs.all (fun c => Nat.beq c.width k) && freshN s d (s.nmOf d))
            · rw [hcnd] at ha; cases ha
            · rw [hcnd] at ha
              simp only [cond_true] at ha
              split at ha
              · rename_i hbound
                simp only [Option.some.injEq] at ha; subst ha
                simp only [Bool.and_eq_true, List.all_eq_true] at hcnd
                obtain ⟨hxw, hfr⟩ := hcnd
                have hxw : ∀ x ∈ xs, x.width = k := fun x hx => Nat.eq_of_beq_eq_true (hxw x hx)
                obtain ⟨hnt, hr, htl⟩ := freshN_spec hfr
                have hsl : ∃ a0 len, vx = .slice a0 len len ∧ Rep g.S w (.slice a0 len len) (.list xs) := by
                  cases hx with
                  | lit hl => simp only [Option.some.injEq] at hxs; subst hxs; exact ⟨_, _, rfl, hl⟩
                  | nils => simp only [Option.some.injEq] at hxs; subst hxs; exact ⟨_, _, rfl, .list 0 (fun _ _ => undef) rfl (Nat.le_refl _) (by simp) (by simp) (by simp) (by simp)⟩
                  | _ => simp at hxs
                obtain ⟨a0, len, rfl, hrep⟩ := hsl
                obtain ⟨e1, e2⟩ := rep_len hrep
                by_cases hfit : len + ys.length ≤ len
                · have hy0 : ys = [] := List.eq_nil_of_length_eq_zero (by omega)
                  subst hy0
                  have hnews : news = [] := List.eq_nil_of_length_eq_zero (by simpa using hnn)
                  subst hnews
                  obtain ⟨hA, hB⟩ := h.hp.noRoom htl hr k hk0
                  refine ⟨_, w, g.setτ (s.nmOf d) ⟨0, 0, 0, k⟩, append_fits hap hT w w a0 len len 0 vy [] hlen (hfirst w rfl).2 hfit (fun _ _ => rfl) (fun _ => rfl), ?_, Ev.world rfl rfl rfl rfl (fun _ _ => Iff.rfl) hB, Names.ofTail htl fun m hm => by simp [G.setτ, hm]⟩
                  rw [List.append_nil]
                  refine h.upd d hd (fun _ _ hs => hs) (fun _ _ _ => rfl) (fun i hi m hm => ⟨rfl, ?_⟩) (.sl hrep (fun x hx => by simpa [G.setτ] using hxw x hx) (by simp [G.setτ]) (fun h0 => by simp [G.setτ] at h0)) hA
                  have : m ≠ s.nmOf d := fun e => hnt i hi (e ▸ hm)
                  simp [G.setτ, this]
                · obtain ⟨olds, ho1, ho2, ho3⟩ := rep_olds (P := P) hrep hxw hk0
                  obtain ⟨z, hz, hrun⟩ := append_grows (ty := ty) hap hT w a0 len len ys.length vy news olds hlen (hfirst w.drew rfl).2 (ho2 w.drew rfl) (by omega) (by rw [← e1]; exact hbound)
                  have hge := grownCap_ge w (len + ys.length) len e
                  obtain ⟨g', hsim, hev, hρ⟩ := grow_sound h hd htl hr hnt hk0 hxw hyw olds news ho1 hnn ho3 hnrep z.cells hz e (grownCap w (len + ys.length) len e) (by omega) (w.drawn + 1)
                  rw [e1] at hsim hev
                  exact ⟨_, _, g', hrun, hsim, hev, Names.ofTail htl hρ⟩
              · cases ha
          · cases ha
    · cases ha
  · cases ha
end Go.Wl

