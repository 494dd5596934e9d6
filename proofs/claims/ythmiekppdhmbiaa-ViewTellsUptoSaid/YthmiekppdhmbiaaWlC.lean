/- Values and memory told without addresses: stores, new variables, literals, ranges over texts. -/
import Derived.Test.YthmiekppdhmbiaaWlB
import Derived.Laws.RangeString
set_option linter.unusedVariables false
set_option linter.unusedSimpArgs false
namespace Go.Wl
variable {P : Program}

def AV.one : AV → Bool
  | .agg _ => false
  | .tup _ => false
  | .any => false
  | .d x => x.one
  | _ => true
theorem av_one {g : G} {w : World} {v : Value} {x : AV} (h : Rel g w v x) (ho : x.one = true) : v.oneCell' = true := by
  cases h with
  | d h => exact one_cell h ho
  | any => simp [AV.one] at ho
  | agg => simp [AV.one] at ho
  | tup => simp [AV.one] at ho
  | _ => rfl
/-- The cells that a value has in memory. -/
theorem cells_rel {g : G} {w : World} {v : Value} {x : AV} {cs : List AV} (h : Rel g w v x) (hc : x.cells? = some cs) : cs.length = v.cells.size ∧ ∀ j c, cs[j]? = some c → Rel g w (v.cells.getD j undef) c := by
  have hone : ∀ {u : Value} {y : AV}, Rel g w u y → u.cells = #[u] → [y].length = u.cells.size ∧ ∀ j c, [y][j]? = some c → Rel g w (u.cells.getD j undef) c := fun {u y} hr e => by
    rw [e]
    refine ⟨rfl, fun j c hj => ?_⟩
    have := lt_of_get hj
    simp at this
    subst this
    simp at hj
    subst hj
    exact hr
  have h0 := h
  cases h with
  | agg hl hr => simp only [AV.cells?, Option.some.injEq] at hc; subst hc; exact ⟨hl, hr⟩
  | any => cases hc
  | d hd =>
    cases hd with
    | @agg vs ds hl hr =>
      simp only [AV.cells?, Option.some.injEq] at hc; subst hc
      refine ⟨by simpa [Value.cells] using hl, fun j c hj => ?_⟩
      simp only [List.getElem?_map, Option.map_eq_some_iff] at hj
      obtain ⟨d, h1, rfl⟩ := hj
      exact .d (hr j d h1)
    | _ => simp only [AV.cells?, Option.some.injEq] at hc; subst hc; exact hone h0 rfl
  | _ => simp only [AV.cells?, Option.some.injEq] at hc; subst hc; exact hone h0 rfl

def splice (vs : List AV) (off : Nat) (cs : List AV) : List AV := vs.take off ++ cs ++ vs.drop (off + cs.length)
theorem splice_get {vs : List AV} {off : Nat} {cs : List AV} (h : off + cs.length ≤ vs.length) (j : Nat) : (splice vs off cs)[j]? = if off ≤ j ∧ j < off + cs.length then cs[j - off]? else vs[j]? := by
  unfold splice
  by_cases h1 : j < off
  · rw [if_neg (by omega), List.append_assoc, List.getElem?_append_left (by simp; omega), List.getElem?_take, if_pos h1]
  · by_cases h2 : j < off + cs.length
    · rw [if_pos (by omega), List.getElem?_append_left (by simp; omega), List.getElem?_append_right (by simp; omega)]
      congr 1
      simp; omega
    · rw [if_neg (by omega), List.getElem?_append_right (by simp; omega), List.getElem?_drop]
      congr 1
      simp; omega
theorem splice_length {vs : List AV} {off : Nat} {cs : List AV} (h : off + cs.length ≤ vs.length) : (splice vs off cs).length = vs.length := by
  unfold splice; simp; omega

def astore (P : Program) (s : St) (t : TypeId) (x y : AV) : Option St :=
  match x with
  | .ptr n off => (match lk s.hp n, ag P t, y.cells? with
    | some (.cells vs), some (k, _), some cs => bif Nat.beq cs.length k && Nat.ble (off + k) vs.length && cs.all AV.one then some { s with hp := lset s.hp n (.cells (splice vs off cs)) } else none
    | _, _, _ => none)
  | _ => none
theorem astore_sound {g : G} {s s' : St} {a : Act} {w : World} (h : Sim g s a w) {t : TypeId} {x y : AV} {vx vy : Value} (hx : Rel g w vx x) (hy : Rel g w vy y) (ha : astore P s t x y = some s') :
    ∃ w', (Instr.storeAt t vx vy).run P w = .ok () w' ∧ Sim g s' a w' ∧ Ev (Own g s.hp) (Own g s'.hp) g g w w' ∧ Names g s.hp g s'.hp := by
  unfold astore at ha
  split at ha
  · rename_i n off
    split at ha
    · rename_i vs k ab cs hn hag hcs
      cases hcnd : (Nat.beq cs.length k && Nat.ble (off + k) vs.length && cs.all AV.one)
      · rw [hcnd] at ha; cases ha
      · rw [hcnd] at ha
        simp only [cond_true, Option.some.injEq] at ha; subst ha
        simp only [Bool.and_eq_true, List.all_eq_true] at hcnd
        obtain ⟨⟨h1, h2⟩, h3⟩ := hcnd
        have h1 := Nat.eq_of_beq_eq_true h1
        have h2 := Nat.le_of_ble_eq_true h2
        cases hx with
        | ptr =>
          obtain ⟨c, e, fr, hb, hl, hfr, hrel⟩ := h.hp.ob n _ hn
          obtain ⟨l1, l2⟩ := cells_rel hy hcs
          have hle : off + vy.cells.toList.length ≤ c.size := by simp only [Array.length_toList]; omega
          have hone : ∀ u ∈ vy.cells.toList, u.oneCell' = true := by
            intro u hu
            obtain ⟨j, hj⟩ := List.mem_iff_getElem?.1 hu
            have hjl := lt_of_get hj
            simp only [Array.length_toList] at hjl
            have hc' : cs[j]? = some cs[j] := by simp [show j < cs.length by omega]
            have := l2 j _ hc'
            rw [Array.getElem?_toList] at hj
            rw [Array.getD_eq_getD_getElem?, hj] at this
            exact av_one this (h3 _ (List.mem_of_getElem? hc'))
          have hst := run_stores (P := P) (g.ρ n) off e fr vy.cells.toList 0 c w hb (by omega) hfr hone
          rw [Nat.add_zero] at hst
          have hput := putA_get vy.cells.toList c off
          have hlt : g.ρ n < w.heap.size := (Array.getElem?_eq_some_iff.1 hb).1
          have hnb : (wr w (g.ρ n) (.cells (putA c off vy.cells.toList) e fr)).heap[g.ρ n]? = some (.cells (putA c off vy.cells.toList) e fr) := by rw [wr_heap hlt, if_pos rfl]
          have hold : ∀ b, b ≠ g.ρ n → (wr w (g.ρ n) (.cells (putA c off vy.cells.toList) e fr)).heap[b]? = w.heap[b]? := fun b hne => by rw [wr_heap hlt, if_neg (Ne.symm hne)]
          have hcell : ∀ b o, g.S b o → (wr w (g.ρ n) (.cells (putA c off vy.cells.toList) e fr)).cell? ⟨b, o, none⟩ = w.cell? ⟨b, o, none⟩ := fun b o hs => cell_other (hold b fun e => h.hp.sep b o hs ⟨n, _, hn, e⟩)
          have hmono : ∀ {u z}, Rel g w u z → Rel g (wr w (g.ρ n) (.cells (putA c off vy.cells.toList) e fr)) u z := fun hr => hr.mono (fun _ _ hs => hs) hcell (fun _ _ => ⟨rfl, rfl⟩)
          have hle2 : off + cs.length ≤ vs.length := by omega
          obtain ⟨hA, hB⟩ := h.hp.put hn (by simp) (.cells (putA c off vy.cells.toList) e fr) (.cells (splice vs off cs)) (by simp) (fun c0 e0 fr0 h0 => by
            rw [hb] at h0; simp only [Option.some.injEq, Obj.cells.injEq] at h0; obtain ⟨rfl, rfl, rfl⟩ := h0; exact ⟨_, rfl, putA_size _ _ _⟩)
            ⟨_, e, fr, hnb, by rw [splice_length hle2, putA_size]; exact hl, by rw [putA_size]; exact hfr, fun j z hj => by
              rw [splice_get hle2] at hj
              rw [Array.getD_eq_getD_getElem?, hput j hle]
              simp only [Array.length_toList]
              by_cases hin : off ≤ j ∧ j < off + cs.length
              · rw [if_pos hin] at hj
                rw [if_pos (by omega)]
                have := l2 _ z hj
                rw [Array.getD_eq_getD_getElem?] at this
                rw [Array.getElem?_toList]
                exact hmono this
              · rw [if_neg hin] at hj
                rw [if_neg (by omega)]
                have := hrel j z hj
                rw [Array.getD_eq_getD_getElem?] at this
                exact hmono this⟩
          refine ⟨_, ?_, ⟨h.n, h.df, fun i => hmono (h.tm i), hA⟩, hB, Names.ofPut (by simp)⟩
          obtain ⟨s1, _⟩ := ag_spec hag w
          have hsz : vy.cells.size = k := by omega
          simp only [Instr.storeAt, Instr.sureAddr, storeVar, Sem.run_bind, Sem.run_pure, Result.andThen_ok, s1, hsz]
          simpa using hst
    · cases ha
  · cases ha

def freshC (s : St) (d n : Nat) : Bool := !(bif tmHas n (ldel s.tm d) then true else hpHas n s.hp) && (match lk s.hp n with | none => true | _ => false)
theorem freshC_spec {s : St} {d n : Nat} (h : freshC s d n = true) : (∀ i, i ≠ d → n ∉ (s.get i).refs) ∧ n ∉ hpRefs s.hp ∧ lk s.hp n = none := by
  unfold freshC at h
  simp only [Bool.and_eq_true, Bool.not_eq_true'] at h
  obtain ⟨h1, h0⟩ := noref h.1
  refine ⟨fun i hi hd => h1 (refs_ldel hi hd), h0, ?_⟩
  have := h.2
  cases hl : lk s.hp n with
  | none => rfl
  | some ob => rw [hl] at this; cases this
/-- A new variable, under a name. -/
def anewN (s : St) (d n : Nat) (cs : List AV) : Option St :=
  bif freshC s d n && ltb d s.n && !(AV.has.hasL n cs) then some { s with tm := lset s.tm d (.ptr n 0), hp := lset s.hp n (.cells cs) } else none
def anew (s : St) (d : Nat) (cs : List AV) : Option St := anewN s d (s.nmOf d) cs
theorem anew_sound {g : G} {s s' : St} {a : Act} {w : World} (h : Sim g s a w) {d : Nat} {cs : List AV} {c : Array Value} (e : TypeId) (hl : cs.length = c.size) (hr : ∀ j x, cs[j]? = some x → Rel g w (c.getD j undef) x) (ha : anew s d cs = some s') :
    ∃ g', Sim g' s' (a.put (some d) (.pointer (some ⟨w.heap.size, 0, none⟩))) (w.alloc (.cells c e)) ∧ Ev (Own g s.hp) (Own g' s'.hp) g g' w (w.alloc (.cells c e)) ∧ Names g s.hp g' s'.hp := by
  unfold anew at ha
  generalize s.nmOf d = n at ha
  unfold anewN at ha
  cases hc : (freshC s d n && ltb d s.n && !(AV.has.hasL n cs))
  · rw [hc] at ha; cases ha
  · rw [hc] at ha
    simp only [cond_true, Option.some.injEq] at ha; subst ha
    simp only [Bool.and_eq_true, Bool.not_eq_true'] at hc
    obtain ⟨⟨h1, hd⟩, h3⟩ := hc
    have hd : d < s.n := Nat.le_of_ble_eq_true hd
    obtain ⟨hnt, hrf, hno⟩ := freshC_spec h1
    have h3 := hasL_spec h3
    have hsame : ∀ m, m ≠ n → (g.setρ n w.heap.size).ρ m = g.ρ m ∧ (g.setρ n w.heap.size).τ m = g.τ m := fun m hm => by simp [G.setρ, hm]
    have hnb : (w.alloc (.cells c e)).heap[w.heap.size]? = some (.cells c e (0, 0)) := by
      show (w.heap.push _)[_]? = _
      simp
    have hcell : ∀ b o, g.S b o → (w.alloc (.cells c e)).cell? ⟨b, o, none⟩ = w.cell? ⟨b, o, none⟩ := fun b o hs => World.cell?_alloc_lt _ _ _ (h.hp.lt hs)
    obtain ⟨hA, hB⟩ := h.hp.new hno hrf (.cells c e) (.cells cs) (by simp) ⟨c, e, (0, 0), by simpa [G.setρ] using hnb, Nat.le_of_eq hl, by simp, fun j x hj =>
      Rel.mono (g := g) (g' := g.setρ n w.heap.size) (fun _ _ hs => hs) hcell (hr j x hj) fun m hm => hsame m fun e => h3 (e ▸ refsL_mem (List.mem_of_getElem? hj) hm)⟩
    refine ⟨g.setρ n w.heap.size, h.upd (g' := g.setρ n w.heap.size) d hd (fun _ _ hs => hs) hcell (fun i hi m hm => hsame m fun e => hnt i hi (e ▸ hm)) ?_ hA, hB, Names.ofTail (fun ob hob => by rw [hno] at hob; cases hob) hsame⟩
    have := Rel.ptr (g := g.setρ n w.heap.size) (w := w.alloc (.cells c e)) (n := n) (off := 0)
    simpa [G.setρ] using this

def abox (s : St) (d : Nat) (x : AV) : Option St := match x.cells? with
  | some cs => anew s d cs
  | none => none
theorem abox_sound {g : G} {s s' : St} {a : Act} {w : World} (h : Sim g s a w) {d : Nat} {e : TypeId} {x : AV} {v : Value} (hx : Rel g w v x) (ha : abox s d x = some s') :
    ∃ u w' g', (Instr.box e v).run P w = .ok u w' ∧ Sim g' s' (a.put (some d) u) w' ∧ Ev (Own g s.hp) (Own g' s'.hp) g g' w w' ∧ Names g s.hp g' s'.hp := by
  unfold abox at ha
  split at ha
  · rename_i cs hcs
    obtain ⟨l1, l2⟩ := cells_rel hx hcs
    obtain ⟨g', h1, h2, h3⟩ := anew_sound h e l1 l2 ha
    exact ⟨_, _, g', by simp [Instr.box, newVar, newRow]; try rfl, h1, h2, h3⟩
  · cases ha

/-- A type's zero value, cell by cell. -/
def zv (P : Program) (t : TypeId) : Option (List AV) :=
  match P.info? t with
  | some i => (match i.zero with
    | some z => some (z.cells.toList.map ofConst.ofConst0)
    | none => none)
  | none => none
theorem zv_spec {t : TypeId} {cs : List AV} (h : zv P t = some cs) (g : G) (w : World) : ∃ z : Value, (zeroValue t).run P w = .ok z w ∧ cs.length = z.cells.size ∧ ∀ j c, cs[j]? = some c → Rel g w (z.cells.getD j undef) c := by
  unfold zv at h
  split at h
  · rename_i i hi
    split at h
    · rename_i z hz
      simp only [Option.some.injEq] at h; subst h
      refine ⟨z, by simp [zeroValue, typeInfo, hi, hz], by simp, fun j c hj => ?_⟩
      simp only [List.getElem?_map, Option.map_eq_some_iff] at hj
      obtain ⟨v, h1, rfl⟩ := hj
      rw [Array.getElem?_toList] at h1
      have : z.cells.getD j undef = v := by simp [h1]
      rw [this]; exact ofConst0_rel g w v
    · cases h
  · cases h
def aalloc (P : Program) (s : St) (d : Nat) (t : TypeId) : Option St := match zv P t with
  | some cs => anew s d cs
  | none => none
theorem aalloc_sound {g : G} {s s' : St} {a : Act} {w : World} (h : Sim g s a w) {d : Nat} {t : TypeId} (ha : aalloc P s d t = some s') :
    ∃ u w' g', (Instr.alloc t true (.tuple #[])).run P w = .ok u w' ∧ Sim g' s' (a.put (some d) u) w' ∧ Ev (Own g s.hp) (Own g' s'.hp) g g' w w' ∧ Names g s.hp g' s'.hp := by
  unfold aalloc at ha
  split at ha
  · rename_i cs hcs
    obtain ⟨z, h0, l1, l2⟩ := zv_spec hcs g w
    obtain ⟨g', h1, h2, h3⟩ := anew_sound h t l1 l2 ha
    exact ⟨_, _, g', by simp [Instr.alloc, h0, newVar, newRow]; try rfl, h1, h2, h3⟩
  · cases ha
end Go.Wl

