/- Values and memory told without addresses: operations that read. -/
import Derived.Test.YthmiekppdhmbiaaWl3
import Derived.Laws.Slices
import Derived.Laws.Cells
import Derived.Laws.Strings
import Derived.Laws.Small
set_option linter.unusedVariables false
set_option linter.unusedSimpArgs false
namespace Go.Wl
variable {P : Program}

/-- A type's size, and whether it is an aggregate. -/
def ag (P : Program) (t : TypeId) : Option (Nat × Bool) :=
  match P.info? t, P.underlying t with
  | some i, some d => some (i.size, match d with | .struct _ | .array _ _ => true | _ => false)
  | _, _ => none
theorem ag_spec {t n : Nat} {b : Bool} (h : ag P t = some (n, b)) (w : World) : (sizeOf t).run P w = .ok n w ∧ (isAgg t).run P w = .ok b w := by
  unfold ag at h
  split at h
  · rename_i i d h1 h2
    simp only [Option.some.injEq, Prod.mk.injEq] at h
    obtain ⟨rfl, rfl⟩ := h
    refine ⟨by simp [sizeOf, typeInfo, h1], ?_⟩
    simp only [isAgg, Sem.run_bind, run_underlying h2, Result.andThen_ok]
    cases d <;> rfl
  · cases h
def fd (P : Program) (s f : Nat) : Option (Nat × Nat × Bool) :=
  match P.underlying s with
  | some (.struct fs) => (match fs[f]? with
    | some x => (match ag P x.type with
      | some (n, b) => some (x.offset, n, b)
      | none => none)
    | none => none)
  | _ => none
/-- A slice type's element: its type and its size. -/
def el (P : Program) (t : TypeId) : Option (TypeId × Nat) :=
  match P.underlying t with
  | some (.slice e) => (match P.info? e with
    | some i => some (e, i.size)
    | none => none)
  | _ => none
/-- An array type: its length, its element's size, and whether that is an aggregate. -/
def arr (P : Program) (t : TypeId) : Option (Nat × Nat × Bool) :=
  match P.underlying t with
  | some (.array n e) => (match ag P e with
    | some (k, b) => some (n, k, b)
    | none => none)
  | _ => none
def isStr (P : Program) (t : TypeId) : Bool := match P.underlying t with | some .string => true | _ => false
theorem isStr_spec {t : TypeId} (h : isStr P t = true) : P.underlying t = some .string := by
  unfold isStr at h; split at h
  · assumption
  · cases h

def D.one : D → Bool
  | .agg _ => false
  | .tup _ => false
  | _ => true
theorem D.cells_one {x : D} (h : x.one = true) : x.cells = [x] := by cases x <;> simp_all [D.one, D.cells]
def D.part (cs : List D) (off n : Nat) (b : Bool) : Option D := bif b then (if off + n ≤ cs.length then some (.agg ((cs.drop off).take n)) else none) else cs[off]?
def AV.part (cs : List AV) (off n : Nat) (b : Bool) : Option AV := bif b then (if off + n ≤ cs.length then some (.agg ((cs.drop off).take n)) else none) else cs[off]?

/-- What a load tells. -/
def aload (P : Program) (t : TypeId) (s : St) : AV → Option AV
  | .ptr n off => match lk s.hp n with
    | some (.cells vs) => (match ag P t with
      | some (k, b) => AV.part vs off k b
      | none => none)
    | _ => none
  | .d (.cptr x) => match ag P t with
    | some (k, true) => (match x with
      | .agg cs => if cs.length = k then some (.d (.agg cs)) else none
      | _ => none)
    | some (_, false) => if x.one then some (.d x) else none
    | none => none
  | _ => none

theorem loadVar_agg {t n : Nat} (h : ag P t = some (n, true)) (w : World) (b o : Nat) (f : Nat → Value) (hf : ∀ j, j < n → w.cell? ⟨b, o + j, none⟩ = some (f j)) :
    (loadVar t ⟨b, o, none⟩).run P w = .ok (.agg ((List.range n).map f).toArray) w := by
  obtain ⟨h1, h2⟩ := ag_spec h w
  simp only [loadVar, Sem.run_bind, h2, Result.andThen_ok, if_true, h1]
  rw [run_loadCells w ⟨b, o, none⟩ n f (fun j hj => by rw [Addr.add_lit]; exact hf j hj)]
  rfl
theorem loadVar_one {t n : Nat} (h : ag P t = some (n, false)) (w : World) (b o : Nat) (v : Value) (hv : w.cell? ⟨b, o, none⟩ = some v) :
    (loadVar t ⟨b, o, none⟩).run P w = .ok v w := by
  obtain ⟨h1, h2⟩ := ag_spec h w
  simp [loadVar, Sem.run_bind, h2, hv]

theorem getD_range {n : Nat} (f : Nat → Value) {j : Nat} (h : j < n) : (((List.range n).map f).toArray).getD j undef = f j := by simp [h]
theorem lt_of_get {α : Type} {l : List α} {j : Nat} {x : α} (h : l[j]? = some x) : j < l.length := (List.getElem?_eq_some_iff.1 h).1

theorem aload_sound {g : G} {s : St} {w : World} (h : SimH g s.hp w) {v : Value} {x y : AV} {t : TypeId} (hv : Rel g w v x) (ha : aload P t s x = some y) :
    ∃ u, (Instr.loadAt t v).run P w = .ok u w ∧ Rel g w u y := by
  cases hv with
  | @ptr n off =>
    simp only [aload] at ha
    split at ha
    · rename_i vs hl
      split at ha
      · rename_i k b hag
        obtain ⟨c, e, fr, hb, hlen, hfr, hrel⟩ := h.ob n _ hl
        have hcell : ∀ o, o < c.size → w.cell? ⟨g.ρ n, o, none⟩ = some (c.getD o undef) := fun o ho => by rw [cell_of hb]; simp [ho]
        cases b with
        | true =>
          simp only [AV.part, cond_true] at ha
          split at ha
          · rename_i hle
            simp only [Option.some.injEq] at ha; subst ha
            have hrun := loadVar_agg hag w (g.ρ n) off (fun j => c.getD (off + j) undef) (fun j hj => hcell _ (by omega))
            refine ⟨_, by simp only [Instr.loadAt, Instr.sureAddr, Sem.run_bind, Sem.run_pure, Result.andThen_ok]; exact hrun, .agg (by simp; omega) fun j x hj => ?_⟩
            have hjk := lt_of_get hj
            simp at hjk
            rw [getD_range _ (by omega)]
            refine hrel (off + j) x ?_
            rw [List.getElem?_take, if_pos (by omega), List.getElem?_drop] at hj
            exact hj
          · cases ha
        | false =>
          simp only [AV.part, cond_false] at ha
          have hlt := lt_of_get ha
          have hrun := loadVar_one hag w (g.ρ n) off _ (hcell off (by omega))
          exact ⟨_, by simp only [Instr.loadAt, Instr.sureAddr, Sem.run_bind, Sem.run_pure, Result.andThen_ok]; exact hrun, hrel off y ha⟩
      · cases ha
    · cases ha
  | @d v x hr =>
    cases hr with
    | @cptr b o x vals hm hr =>
      simp only [aload] at ha
      split at ha
      · rename_i k hag
        split at ha
        · rename_i cs
          split at ha
          · rename_i hk
            simp only [Option.some.injEq] at ha; subst ha
            have hm' : ∀ j, j < k → w.cell? ⟨b, o + j, none⟩ = some (vals j) := fun j hj => by
              have : j < cs.length := by omega
              exact (hm j cs[j] (by simp [D.cells, this])).2
            refine ⟨_, by simp only [Instr.loadAt, Instr.sureAddr, Sem.run_bind, Sem.run_pure, Result.andThen_ok]; exact loadVar_agg hag w _ _ vals hm', .d (.agg (by simp [hk]) fun j c hj => ?_)⟩
            rw [getD_range _ (by have := lt_of_get hj; omega)]
            exact hr j c hj
          · cases ha
        · cases ha
      · rename_i k hag
        split at ha
        · rename_i hone
          simp only [Option.some.injEq] at ha; subst ha
          have hc := D.cells_one hone
          have h0 := hm 0 x (by rw [hc]; rfl)
          refine ⟨vals 0, by simp only [Instr.loadAt, Instr.sureAddr, Sem.run_bind, Sem.run_pure, Result.andThen_ok]; exact loadVar_one hag w _ _ _ h0.2, .d (hr 0 x (by rw [hc]; rfl))⟩
        · cases ha
      · cases ha
    | _ => simp [aload] at ha
  | _ => simp [aload] at ha

/-- A field's address. -/
def afield (P : Program) (t f : Nat) : AV → Option AV
  | .ptr n off => match fd P t f with
    | some (o, k, _) => bif Nat.beq k 0 then none else some (.ptr n (off + o))
    | none => none
  | .d (.cptr (.agg cs)) => match fd P t f with
    | some (o, k, b) => bif Nat.beq k 0 then none else (match D.part cs o k b with
      | some y => if b || y.one then some (.d (.cptr y)) else none
      | none => none)
    | none => none
  | _ => none
theorem fieldAt_run {t f o k : Nat} {b : Bool} (h : fd P t f = some (o, k, b)) (hk : k ≠ 0) (w : World) (B O : Nat) :
    (Instr.fieldAt t (.pointer (some ⟨B, O, none⟩)) f).run P w = .ok (.pointer (some ⟨B, O + o, none⟩)) w := by
  unfold fd at h
  split at h
  · rename_i fs hu
    split at h
    · rename_i x hx
      split at h
      · rename_i n b' hag
        simp only [Option.some.injEq, Prod.mk.injEq] at h
        obtain ⟨rfl, rfl, rfl⟩ := h
        obtain ⟨h1, h2⟩ := ag_spec hag w
        simp only [Instr.fieldAt, Sem.run_bind, run_underlying hu, Result.andThen_ok, hx]
        simp [Instr.sureAddr, fieldPlace, h1, hk, Addr.add_lit]
      · cases h
    · cases h
  · cases h
theorem rep_part {S : Nat → Nat → Prop} {w : World} {b o : Nat} {cs : List D} (hr : Rep S w (.pointer (some ⟨b, o, none⟩)) (.cptr (.agg cs))) {off n : Nat} {ag : Bool} {y : D}
    (hp : D.part cs off n ag = some y) (ho : (ag || y.one) = true) : Rep S w (.pointer (some ⟨b, o + off, none⟩)) (.cptr y) := by
  cases hr with
  | cptr vals hm hr =>
    cases ag with
    | true =>
      simp only [D.part, cond_true] at hp
      split at hp
      · rename_i hle
        simp only [Option.some.injEq] at hp; subst hp
        refine .cptr (fun j => vals (off + j)) (fun j c hj => ?_) (fun j c hj => ?_)
        all_goals
          have hlt := lt_of_get hj
          simp [D.cells] at hlt
          have hj' : cs[off + j]? = some c := by
            simp only [D.cells] at hj
            rw [List.getElem?_take, if_pos (by omega), List.getElem?_drop] at hj
            exact hj
        · rw [Nat.add_assoc]; exact hm (off + j) c hj'
        · exact hr (off + j) c hj'
      · cases hp
    | false =>
      simp only [D.part, cond_false] at hp
      simp only [Bool.false_or] at ho
      have hc := D.cells_one ho
      refine .cptr (fun j => vals off) (fun j c hj => ?_) (fun j c hj => ?_)
      all_goals
        rw [hc] at hj
        have hj0 : j = 0 := by have := lt_of_get hj; simp at this; omega
        subst hj0
        simp at hj; subst hj
      · exact hm off _ hp
      · exact hr off _ hp
theorem afield_sound {g : G} {w : World} {v : Value} {x y : AV} {t f : Nat} (hv : Rel g w v x) (ha : afield P t f x = some y) :
    ∃ u, (Instr.fieldAt t v f).run P w = .ok u w ∧ Rel g w u y := by
  cases hv with
  | @ptr n off =>
    simp only [afield] at ha
    split at ha
    · rename_i o k b hfd
      cases hk : Nat.beq k 0
      · rw [hk] at ha
        simp only [cond_false, Option.some.injEq] at ha; subst ha
        exact ⟨_, fieldAt_run hfd (fun e => by subst e; simp at hk) w _ _, .ptr⟩
      · rw [hk] at ha; cases ha
    · cases ha
  | @d v x hr =>
    cases hr with
    | @cptr b o x vals hm hr =>
      cases x with
      | agg cs =>
        simp only [afield] at ha
        split at ha
        · rename_i o' k b' hfd
          cases hk : Nat.beq k 0
          · rw [hk] at ha
            simp only [cond_false] at ha
            split at ha
            · rename_i y' hp
              split at ha
              · rename_i ho
                simp only [Option.some.injEq] at ha; subst ha
                exact ⟨_, fieldAt_run hfd (fun e => by subst e; simp at hk) w _ _, .d (rep_part (.cptr vals hm hr) hp ho)⟩
              · cases ha
            · cases ha
          · rw [hk] at ha; cases ha
        · cases ha
      | _ => simp [afield] at ha
    | _ => simp [afield] at ha
  | _ => simp [afield] at ha

/-- The list that a value is, if it is one. -/
def AV.list : AV → Option (List D)
  | .d (.list xs) => some xs
  | .sl _ xs => some xs
  | .lit xs => some xs
  | .rs xs _ => some xs
  | .nils => some []
  | _ => none
theorem rep_prefix {S : Nat → Nat → Prop} {w : World} {a : Option Addr} {cap : Nat} {xs ys : List D} (h : Rep S w (.slice a cap cap) (.list (xs ++ ys))) : Rep S w (.slice a xs.length cap) (.list xs) := by
  cases h with
  | list sz vals hl hc hs hw hm hr =>
    have hg : ∀ (i : Nat) (x : D), xs[i]? = some x → (xs ++ ys)[i]? = some x := fun i x hx => by rw [List.getElem?_append_left (lt_of_get hx)]; exact hx
    exact .list sz vals rfl (by simp at hl; omega) hs (fun x hx => hw x (List.mem_append_left _ hx)) (fun i x j c b o hi => hm i x j c b o (hg i x hi)) (fun i x j c hi => hr i x j c (hg i x hi))
theorem list_rep {g : G} {w : World} {v : Value} {x : AV} {xs : List D} (hv : Rel g w v x) (hl : x.list = some xs) : ∃ a len cap, v = .slice a len cap ∧ Rep g.S w (.slice a len cap) (.list xs) := by
  cases hv with
  | d h =>
    cases h with
    | list sz vals hl' hc hs hw hm hr => simp only [AV.list, Option.some.injEq] at hl; subst hl; exact ⟨_, _, _, rfl, .list sz vals hl' hc hs hw hm hr⟩
    | _ => simp [AV.list] at hl
  | sl h => simp only [AV.list, Option.some.injEq] at hl; subst hl; exact ⟨_, _, _, rfl, h⟩
  | lit h => simp only [AV.list, Option.some.injEq] at hl; subst hl; exact ⟨_, _, _, rfl, h⟩
  | rs h hl' => simp only [AV.list, Option.some.injEq] at hl; subst hl; subst hl'; exact ⟨_, _, _, rfl, rep_prefix h⟩
  | nils =>
    simp only [AV.list, Option.some.injEq] at hl; subst hl
    exact ⟨_, _, _, rfl, .list 0 (fun _ _ => undef) rfl (Nat.le_refl _) (by simp) (by simp) (by simp) (by simp)⟩
  | _ => simp [AV.list] at hl
theorem rep_len {S : Nat → Nat → Prop} {w : World} {a : Option Addr} {len cap : Nat} {xs : List D} (h : Rep S w (.slice a len cap) (.list xs)) : xs.length = len ∧ len ≤ cap := by
  cases h with
  | list sz vals hl hc hs hw hm hr => exact ⟨hl, hc⟩
/-- An element's place. -/
theorem rep_elem {S : Nat → Nat → Prop} {w : World} {a : Option Addr} {len cap : Nat} {xs : List D} (h : Rep S w (.slice a len cap) (.list xs)) {i : Nat} {x : D} (hx : xs[i]? = some x) :
    ∃ b o, a = some ⟨b, o, none⟩ ∧ i < len ∧ Rep S w (.pointer (some ⟨b, o + i * x.width, none⟩)) (.cptr x) := by
  cases h with
  | list sz vals hl hc hs hw hm hr =>
    have hi := lt_of_get hx
    obtain ⟨b, o, ha⟩ := hs (by omega)
    have hsz := hw x (List.mem_of_getElem? hx)
    refine ⟨b, o, ha, by omega, .cptr (vals i) (fun j c hj => ?_) (fun j c hj => hr i x j c hx hj)⟩
    have := hm i x j c b o hx hj ha
    rw [hsz, Nat.add_assoc]
    exact this

/-- An element's address. -/
def aindex (P : Program) (t : TypeId) (x : AV) (i : AV) : Option AV :=
  match i with
  | .d (.int _ i) => (match el P t with
    | some (_, k) => (match x with
      | .slc n off len _ => if 0 ≤ i ∧ i < len then some (.ptr n (off + i.toNat * k)) else none
      | x => (match x.list with
        | some xs => if 0 ≤ i then (match xs[i.toNat]? with
          | some y => bif Nat.beq y.width k then some (.d (.cptr y)) else none
          | none => none) else none
        | none => none))
    | none => (match arr P t with
      | some (n, k, b) => (match x with
        | .ptr m off => if 0 ≤ i ∧ i < n then some (.ptr m (off + i.toNat * k)) else none
        | .d (.cptr (.agg cs)) => if 0 ≤ i ∧ i < n then (match D.part cs (i.toNat * k) k b with
          | some y => if b || y.one then some (.d (.cptr y)) else none
          | none => none) else none
        | _ => none)
      | none => none))
  | _ => none
theorem el_spec {t e k : Nat} (h : el P t = some (e, k)) : P.underlying t = some (.slice e) ∧ ∃ i, P.info? e = some i ∧ i.size = k := by
  unfold el at h
  split at h
  · rename_i e' hu
    split at h
    · rename_i i hi
      simp only [Option.some.injEq, Prod.mk.injEq] at h
      obtain ⟨rfl, rfl⟩ := h
      exact ⟨hu, i, hi, rfl⟩
    · cases h
  · cases h
theorem arr_spec {t n k : Nat} {b : Bool} (h : arr P t = some (n, k, b)) : ∃ e, P.underlying t = some (.array n e) ∧ ag P e = some (k, b) := by
  unfold arr at h
  split at h
  · rename_i n' e' hu
    split at h
    · rename_i k' b' hi
      simp only [Option.some.injEq, Prod.mk.injEq] at h
      obtain ⟨rfl, rfl, rfl⟩ := h
      exact ⟨e', hu, hi⟩
    · cases h
  · cases h
theorem indexAt_slice {t e k : Nat} (h : el P t = some (e, k)) (w : World) (b o len cap : Nat) (kd : IntKind) (i : Int) (h0 : 0 ≤ i) (h1 : i < len) :
    (Instr.indexAt t (.slice (some ⟨b, o, none⟩) len cap) (.int kd i)).run P w = .ok (.pointer (some ⟨b, o + i.toNat * k, none⟩)) w := by
  obtain ⟨hu, i', hi, rfl⟩ := el_spec h
  simp [Instr.indexAt, asIntOf, run_underlying hu, h0, h1, sizeOf, typeInfo, hi, Addr.add_lit]
theorem indexAt_arr {t n k : Nat} {ab : Bool} (h : arr P t = some (n, k, ab)) (w : World) (b o : Nat) (kd : IntKind) (i : Int) (h0 : 0 ≤ i) (h1 : i < n) :
    (Instr.indexAt t (.pointer (some ⟨b, o, none⟩)) (.int kd i)).run P w = .ok (.pointer (some ⟨b, o + i.toNat * k, none⟩)) w := by
  obtain ⟨e, hu, hi⟩ := arr_spec h
  obtain ⟨hs, _⟩ := ag_spec hi w
  simp [Instr.indexAt, asIntOf, run_underlying hu, h0, h1, hs, Addr.add_lit, Instr.sureAddr]
theorem aindex_sound {g : G} {w : World} {v iv : Value} {x i y : AV} {t : TypeId} (hv : Rel g w v x) (hi : Rel g w iv i) (ha : aindex P t x i = some y) :
    ∃ u, (Instr.indexAt t v iv).run P w = .ok u w ∧ Rel g w u y := by
  cases hi with
  | d hi =>
    cases hi with
    | @int kd i =>
      simp only [aindex] at ha
      split at ha
      · rename_i e k hel
        split at ha
        · rename_i n off len cap
          split at ha
          · rename_i hlt
            simp only [Option.some.injEq] at ha; subst ha
            cases hv with
            | slc => exact ⟨_, indexAt_slice hel w _ _ _ _ _ _ hlt.1 hlt.2, .ptr⟩
          · cases ha
        · rename_i xx _
          split at ha
          · rename_i xs hxs
            split at ha
            · rename_i h0
              split at ha
              · rename_i y' hy
                cases hk : Nat.beq y'.width k
                · rw [hk] at ha; cases ha
                · rw [hk] at ha
                  simp only [cond_true, Option.some.injEq] at ha; subst ha
                  have hk' := Nat.eq_of_beq_eq_true hk
                  obtain ⟨a, len, cap, rfl, hrep⟩ := list_rep hv hxs
                  obtain ⟨b, o, rfl, hilt, hp⟩ := rep_elem hrep hy
                  rw [hk'] at hp
                  exact ⟨_, indexAt_slice hel w _ _ _ _ _ _ h0 (by omega), .d hp⟩
              · cases ha
            · cases ha
          · cases ha
      · split at ha
        · rename_i n k b harr
          split at ha
          · rename_i m off
            split at ha
            · rename_i hlt
              simp only [Option.some.injEq] at ha; subst ha
              cases hv with
              | ptr => exact ⟨_, indexAt_arr harr w _ _ _ _ hlt.1 hlt.2, .ptr⟩
            · cases ha
          · rename_i cs
            split at ha
            · rename_i hlt
              split at ha
              · rename_i y' hp
                split at ha
                · rename_i ho
                  simp only [Option.some.injEq] at ha; subst ha
                  cases hv with
                  | d hr =>
                    cases hr with
                    | cptr vals hm hr => exact ⟨_, indexAt_arr harr w _ _ _ _ hlt.1 hlt.2, .d (rep_part (.cptr vals hm hr) hp ho)⟩
                · cases ha
              · cases ha
            · cases ha
          · cases ha
        · cases ha
    | _ => simp [aindex] at ha
  | _ => simp [aindex] at ha

/-- A part of an aggregate that is no memory. -/
def AV.cells? : AV → Option (List AV)
  | .agg cs => some cs
  | .d (.agg cs) => some (cs.map .d)
  | .any => none
  | x => some [x]
def AV.aggOf : AV → Option (List AV)
  | .agg cs => some cs
  | .d (.agg cs) => some (cs.map .d)
  | _ => none
theorem aggOf_rel {g : G} {w : World} {v : Value} {x : AV} {cs : List AV} (hv : Rel g w v x) (h : x.aggOf = some cs) : ∃ vs : Array Value, v = .agg vs ∧ cs.length = vs.size ∧ ∀ j c, cs[j]? = some c → Rel g w (vs.getD j undef) c := by
  cases hv with
  | agg hl hr => simp only [AV.aggOf, Option.some.injEq] at h; subst h; exact ⟨_, rfl, hl, hr⟩
  | d hd =>
    cases hd with
    | @agg vs ds hl hr =>
      simp only [AV.aggOf, Option.some.injEq] at h; subst h
      refine ⟨_, rfl, by simp [hl], fun j c hj => ?_⟩
      simp only [List.getElem?_map, Option.map_eq_some_iff] at hj
      obtain ⟨d, h1, rfl⟩ := hj
      exact .d (hr j d h1)
    | _ => simp [AV.aggOf] at h
  | _ => simp [AV.aggOf] at h
theorem part_run {t n : Nat} {b : Bool} (h : ag P t = some (n, b)) {g : G} {w : World} {vs : Array Value} {cs : List AV} (hl : cs.length = vs.size) (hr : ∀ j c, cs[j]? = some c → Rel g w (vs.getD j undef) c)
    {off : Nat} {y : AV} (hp : AV.part cs off n b = some y) : ∃ u, (part t vs off).run P w = .ok u w ∧ Rel g w u y := by
  obtain ⟨h1, h2⟩ := ag_spec h w
  cases b with
  | true =>
    simp only [AV.part, cond_true] at hp
    split at hp
    · rename_i hle
      simp only [Option.some.injEq] at hp; subst hp
      refine ⟨.agg (vs.extract off (off + n)), by simp [part, h2, h1], .agg (by simp; omega) fun j c hj => ?_⟩
      have hlt := lt_of_get hj
      rw [List.length_take, List.length_drop] at hlt
      rw [List.getElem?_take, if_pos (by omega), List.getElem?_drop] at hj
      have := hr (off + j) c hj
      have e : (vs.extract off (off + n)).getD j undef = vs.getD (off + j) undef := by
        have h3 : off + j < vs.size := by omega
        have h4 : j < n := by omega
        have h5 : j < min (off + n) vs.size - off := by omega
        simp only [Array.getD_eq_getD_getElem?, Array.getElem?_extract, if_pos h5]
      rw [e]; exact this
    · cases hp
  | false =>
    simp only [AV.part, cond_false] at hp
    have hlt := lt_of_get hp
    refine ⟨vs.getD off undef, ?_, hr off y hp⟩
    have : off < vs.size := by omega
    simp [part, h2, this]
/-- A field of a value. -/
def afieldV (P : Program) (t f : Nat) (x : AV) : Option AV :=
  match x.aggOf, fd P t f with
  | some cs, some (o, k, b) => AV.part cs o k b
  | _, _ => none
theorem afieldV_sound {g : G} {w : World} {v : Value} {x y : AV} {t f : Nat} (hv : Rel g w v x) (ha : afieldV P t f x = some y) :
    ∃ u, (Instr.field t v f).run P w = .ok u w ∧ Rel g w u y := by
  unfold afieldV at ha
  split at ha
  · rename_i cs o k b hcs hfd
    obtain ⟨vs, rfl, hl, hr⟩ := aggOf_rel hv hcs
    unfold fd at hfd
    split at hfd
    · rename_i fs hu
      split at hfd
      · rename_i x hx
        split at hfd
        · rename_i n b' hag
          simp only [Option.some.injEq, Prod.mk.injEq] at hfd
          obtain ⟨rfl, rfl, rfl⟩ := hfd
          obtain ⟨u, h1, h2⟩ := part_run hag hl hr ha
          refine ⟨u, ?_, h2⟩
          simp only [Instr.field, Sem.run_bind, run_underlying hu, Result.andThen_ok, hx, asAgg, Sem.run_pure, h1]
        · cases hfd
      · cases hfd
    · cases hfd
  · cases ha
/-- The element of an array that is a value, or a text's byte. -/
def u8 (c : UInt8) : D := .int .u8 c.toNat
def aindexV (P : Program) (t : TypeId) (x i : AV) : Option AV :=
  match i with
  | .d (.int _ i) => (match x with
    | .d (.str bs) => bif isStr P t then (if 0 ≤ i then (match bs[i.toNat]? with
      | some c => some (.d (u8 c))
      | none => none) else none) else none
    | x => (match x.aggOf, arr P t with
      | some cs, some (n, k, b) => if 0 ≤ i ∧ i < n then AV.part cs (i.toNat * k) k b else none
      | _, _ => none))
  | _ => none
theorem aindexV_sound {g : G} {w : World} {v iv : Value} {x i y : AV} {t : TypeId} (hv : Rel g w v x) (hi : Rel g w iv i) (ha : aindexV P t x i = some y) :
    ∃ u, (Instr.index t v iv).run P w = .ok u w ∧ Rel g w u y := by
  cases hi with
  | d hi =>
    cases hi with
    | @int kd i =>
      simp only [aindexV] at ha
      split at ha
      · rename_i bs
        cases hs : isStr P t
        · rw [hs] at ha; cases ha
        · rw [hs] at ha
          simp only [cond_true] at ha
          split at ha
          · rename_i h0
            split at ha
            · rename_i c hc
              simp only [Option.some.injEq] at ha; subst ha
              cases hv with
              | d hr =>
                cases hr with
                | @str s =>
                  refine ⟨.int .u8 c.toNat, ?_, .d .int⟩
                  have hc' : s[i.toNat]? = some c := by
                    rw [Array.getElem?_toList] at hc
                    have hlt : i.toNat < s.size := (Array.getElem?_eq_some_iff.1 hc).1
                    obtain ⟨h1, h2⟩ := Array.getElem?_eq_some_iff.1 hc
                    rw [getElem?_pos s i.toNat hlt]
                    exact congrArg some h2
                  simp [Instr.index, asIntOf, run_underlying (isStr_spec hs), h0, hc']
            · cases ha
          · cases ha
      · rename_i xx _
        split at ha
        · rename_i cs n k b hcs harr
          split at ha
          · rename_i hlt
            obtain ⟨vs, rfl, hl, hr⟩ := aggOf_rel hv hcs
            obtain ⟨e, hu, hag⟩ := arr_spec harr
            obtain ⟨u, h1, h2⟩ := part_run hag hl hr ha
            refine ⟨u, ?_, h2⟩
            simp only [Instr.index, asIntOf, Sem.run_bind, Sem.run_pure, Result.andThen_ok, run_underlying hu, hlt.1, hlt.2, and_self, if_true, (ag_spec hag w).1, h1]
          · cases ha
        · cases ha
    | _ => simp [aindexV] at ha
  | _ => simp [aindexV] at ha
end Go.Wl

