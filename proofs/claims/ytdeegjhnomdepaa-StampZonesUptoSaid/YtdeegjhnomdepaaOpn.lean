/- What a reading of the arguments tells, as data. -/
import Derived.Test.YtdeegjhnomdepaaWB
import Derived.Test.YtdeegjhnomdepaaRows
import Derived.WalkKit
import Derived.ProofKit
import Derived.OpenShut
import Derived.ShutString
import Derived.ChangeOld
set_option linter.unusedVariables false
set_option linter.unusedSimpArgs false
namespace Go.Proofs.Ytdeegjhnomdepaa.o
open Go.Wl Go.RowKit Go.ChangeShapes Go.WideShapes Go.ChangeAt

theorem one_le {H : Type} (d : DataW H) : 1 ≤ Rows.uptoBulk d := by
  cases d with
  | lit l => cases l <;> simp [Rows.uptoBulk]
  | nil => simp [Rows.uptoBulk]
  | ptr d => simp [Rows.uptoBulk]
  | slice elems spare => simp [Rows.uptoBulk]
  | agg parts => simp [Rows.uptoBulk]
  | iface t d => simp [Rows.uptoBulk]
  | map entries => simp [Rows.uptoBulk]
  | held h => simp [Rows.uptoBulk]
theorem part_le {H : Type} {d : DataW H} {l : List (DataW H)} (h : d ∈ l) : Rows.uptoBulk d ≤ Rows.uptoBulkAll l := by
  induction l with
  | nil => cases h
  | cons x r ih =>
    simp only [Rows.uptoBulkAll]
    cases List.mem_cons.1 h with
    | inl e => subst e; omega
    | inr e => have := ih e; omega
theorem length_le {H : Type} (l : List (DataW H)) : l.length ≤ Rows.uptoBulkAll l := by
  induction l with
  | nil => simp [Rows.uptoBulkAll]
  | cons x r ih => have := one_le x; simp only [Rows.uptoBulkAll, List.length_cons]; omega

/-- The shape of a type. -/
inductive Sh where
  | int (k : IntKind)
  | bool
  | str
  | list (e : Sh)
  | struct (fs : List Sh)
def Sh.mk (e : Sh) (ys : List D) : D := match e with
  | .struct _ => .agg ys
  | _ => ys.headD .nilp
mutual
def Ok : Sh → Nat → List D → Prop
  | .int k, m, xs => ∃ n, xs = [.int k n] ∧ (Lit.int k n).wf = true
  | .bool, m, xs => ∃ b, xs = [.bool b]
  | .str, m, xs => ∃ s, xs = [.str s] ∧ s.length + 1 ≤ m
  | .list e, m, xs => ∃ l, xs = [.list l] ∧ l.length + 1 ≤ m ∧ ∀ y ∈ l, ∃ ys, y = e.mk ys ∧ Ok e m ys
  | .struct fs, m, xs => OkL fs m xs
def OkL : List Sh → Nat → List D → Prop
  | [], m, xs => xs = []
  | f :: r, m, xs => ∃ a b, xs = a ++ b ∧ Ok f m a ∧ OkL r m b
end
theorem mk_cells {e : Sh} {m : Nat} {ys : List D} (h : Ok e m ys) : (e.mk ys).cells = ys := by
  cases e with
  | int k => simp only [Ok] at h; obtain ⟨n, rfl, _⟩ := h; rfl
  | bool => simp only [Ok] at h; obtain ⟨n, rfl⟩ := h; rfl
  | str => simp only [Ok] at h; obtain ⟨n, rfl, _⟩ := h; rfl
  | list e => simp only [Ok] at h; obtain ⟨n, rfl, _⟩ := h; rfl
  | struct fs => rfl
mutual
def shOf (P : Program) : Nat → TypeId → Option Sh
  | 0, _ => none
  | f + 1, t => match P.underlying t with
    | some .bool => some .bool
    | some (.int k) => some (.int k)
    | some .string => some .str
    | some (.slice e) => bif ltb 0 (P.cellsOf e) then (match shOf P f e with
      | some s => some (.list s)
      | none => none) else none
    | some (.struct fs) => (match shFs P f fs.toList 0 with
      | some (l, n) => bif Nat.beq n (P.cellsOf t) then some (.struct l) else none
      | none => none)
    | _ => none
def shFs (P : Program) : Nat → List Field → Nat → Option (List Sh × Nat)
  | 0, _, _ => none
  | _ + 1, [], n => some ([], n)
  | f + 1, x :: r, n => bif Nat.beq x.offset n then (match shOf P f x.type, shFs P f r (n + P.cellsOf x.type) with
    | some s, some (l, m) => some (s :: l, m)
    | _, _ => none) else none
end
theorem list_choose {α : Type} {Q : Nat → α → Prop} : ∀ (n : Nat), (∀ i, i < n → ∃ y, Q i y) → ∃ l : List α, l.length = n ∧ ∀ i y, l[i]? = some y → Q i y
  | 0, _ => ⟨[], rfl, fun i y h => by simp at h⟩
  | n + 1, h => by
    obtain ⟨l, h1, h2⟩ := list_choose n fun i hi => h i (by omega)
    obtain ⟨y, hy⟩ := h n (by omega)
    refine ⟨l ++ [y], by simp [h1], fun i z hz => ?_⟩
    rw [List.getElem?_append] at hz
    split at hz
    · exact h2 i z hz
    · rename_i hi
      have : i = n := by
        have := (List.getElem?_eq_some_iff.1 hz).1
        simp at this; omega
      subst this
      rw [h1, Nat.sub_self] at hz
      simp at hz; subst hz; exact hy
section
variable {H : Type} {enc : TypeId × Value → H} {P : Program} {w : World} {base : Nat} {held : Bool}
abbrev SW (w : World) : Nat → Nat → Prop := fun b o => (w.cell? ⟨b, o, none⟩).isSome = true
/-- Cells that stand for data of a shape. -/
def Cl (w : World) (sh : Sh) (m : Nat) (cs : List Value) : Prop := ∃ xs : List D, Ok sh m xs ∧ xs.length = cs.length ∧ ∀ j c, xs[j]? = some c → Rep (SW w) w (cs.getD j undef) c
theorem cell_none {a : Addr} {v : Value} (h : w.cell? a = some v) : a = ⟨a.block, a.off, none⟩ := by
  obtain ⟨b, o, s⟩ := a
  unfold World.cell? at h
  split at h
  · cases s with
    | none => rfl
    | some x => simp at h
  · cases h
theorem opens_list {t e : TypeId} {m fuel : Nat} {sh : Sh} (ht : P.underlying t = some (.slice e)) (hk : 0 < P.cellsOf e)
    (ih : ∀ n cs x, DataW.trod enc P w base (fun _ => true) held n e cs = some x → Rows.uptoBulk x.1 ≤ m → Cl w sh m cs)
    {cs : List Value} {x : DataW H × List MemPlace} (h : DataW.trod enc P w base (fun _ => true) held fuel t cs = some x) (hm : Rows.uptoBulk x.1 ≤ m) : Cl w (.list sh) m cs := by
  rcases DataW.trod_slice ht h with ⟨rfl, rfl⟩ | ⟨a, len, cap, elems, rest, n, _, rfl, rfl, hb, hl, hcm, hlen, hel, hsp, _⟩
  · have h1 := one_le (H := H) .nil
    refine ⟨[.list []], by simp only [Ok]; exact ⟨[], rfl, by simpa using Nat.le_trans h1 hm, by simp⟩, rfl, fun j c hj => ?_⟩
    cases j with
    | zero =>
      simp at hj; subst hj
      exact .list 1 (fun _ _ => undef) rfl (Nat.le_refl _) (by simp) (by simp) (by simp) (by simp)
    | succ j => simp at hj
  · simp only [Rows.uptoBulk] at hm
    have hcell : ∀ i, i < cap → ∃ cs' y, w.cells? base (a.add (i * P.cellsOf e)) (P.cellsOf e) = some cs' ∧ DataW.trod enc P w base (fun _ => true) held n e cs' = some y ∧ Rows.uptoBulk y.1 ≤ m := fun i hi => by
      by_cases h1 : i < len
      · have h2 := hel i h1
        rw [List.getElem?_eq_getElem (by omega), Option.bind_eq_some_iff] at h2
        obtain ⟨cs', h3, h4⟩ := h2
        have := part_le (List.mem_map.2 ⟨_, List.getElem_mem (show i < elems.length by omega), rfl⟩ : (elems[i]'(by omega)).1 ∈ elems.map (·.1))
        exact ⟨cs', _, h3, h4, by omega⟩
      · obtain ⟨h5, h6⟩ := hsp rfl
        have h2 := h6 (i - len) (by omega)
        rw [show len + (i - len) = i by omega, List.getElem?_eq_getElem (by omega), Option.bind_eq_some_iff] at h2
        obtain ⟨cs', h3, h4⟩ := h2
        have := part_le (List.mem_map.2 ⟨_, List.getElem_mem (show i - len < rest.length by omega), rfl⟩ : (rest[i - len]'(by omega)).1 ∈ rest.map (·.1))
        exact ⟨cs', _, h3, h4, by omega⟩
    obtain ⟨b, o, sp⟩ := a
    have hspot : 0 < cap → sp = none := fun hc => by
      obtain ⟨cs', y, h1, _, _⟩ := hcell 0 hc
      obtain ⟨_, h2, h3⟩ := World.cells?_some h1
      have h4 := h3 0 hk
      rw [List.getElem?_eq_getElem (by omega)] at h4
      have h5 := cell_none h4
      simp [Addr.add] at h5
      exact h5
    have hadd : ∀ i j, 0 < cap → (Addr.add (Addr.add ⟨b, o, sp⟩ i) j) = ⟨b, o + (i + j), none⟩ := fun i j hc => by
      rw [hspot hc]
      unfold Addr.add
      by_cases h1 : i = 0 <;> by_cases h2 : j = 0 <;> simp [h1, h2, Nat.add_assoc]
    obtain ⟨l, l1, l2⟩ := list_choose (α := List D) (Q := fun i ys => Ok sh m ys ∧ ys.length = P.cellsOf e ∧ ∀ j c, ys[j]? = some c → (w.cell? ⟨b, o + (i * P.cellsOf e + j), none⟩).isSome = true ∧ Rep (SW w) w ((w.cell? ⟨b, o + (i * P.cellsOf e + j), none⟩).getD undef) c) len fun i hi => by
      obtain ⟨cs', y, h1, h2, h3⟩ := hcell i (by omega)
      obtain ⟨ys, q1, q2, q3⟩ := ih n cs' y h2 h3
      obtain ⟨_, h4, h5⟩ := World.cells?_some h1
      refine ⟨ys, q1, by omega, fun j c hj => ?_⟩
      have hjl := (List.getElem?_eq_some_iff.1 hj).1
      have h6 := h5 j (by omega)
      rw [hadd _ _ (by omega)] at h6
      have h7 := q3 j c hj
      rw [h6, List.getElem?_eq_getElem (by omega)]
      rw [List.getD_eq_getElem?_getD, List.getElem?_eq_getElem (by omega)] at h7
      exact ⟨rfl, h7⟩
    have hlen2 : len + 1 ≤ m := by
      have := length_le (elems.map (·.1))
      rw [List.length_map] at this
      omega
    refine ⟨[.list (l.map sh.mk)], by
      simp only [Ok]
      exact ⟨_, rfl, by simpa [l1] using hlen2, fun y hy => by
        obtain ⟨ys, h1, rfl⟩ := List.mem_map.1 hy
        obtain ⟨i, hi⟩ := List.getElem?_of_mem h1
        exact ⟨ys, rfl, (l2 i ys hi).1⟩⟩, rfl, fun j c hj => ?_⟩
    cases j with
    | succ j => simp at hj
    | zero =>
      simp at hj; subst hj
      refine .list (P.cellsOf e) (fun i j => (w.cell? ⟨b, o + (i * P.cellsOf e + j), none⟩).getD undef) (by simp [l1]) hl (fun hc => ⟨b, o, by rw [hspot hc]⟩) (fun x hx => ?_) (fun i x j c b' o' hi hj he => ?_) (fun i x j c hi hj => ?_)
      · obtain ⟨ys, h1, rfl⟩ := List.mem_map.1 hx
        obtain ⟨i, hi⟩ := List.getElem?_of_mem h1
        obtain ⟨q1, q2, _⟩ := l2 i ys hi
        unfold D.width
        rw [mk_cells q1]; exact q2
      · rw [List.getElem?_map, Option.map_eq_some_iff] at hi
        obtain ⟨ys, h1, rfl⟩ := hi
        obtain ⟨q1, q2, q3⟩ := l2 i ys h1
        rw [mk_cells q1] at hj
        simp only [Option.some.injEq, Addr.mk.injEq] at he
        obtain ⟨rfl, rfl, _⟩ := he
        have h3 := (q3 j c hj).1
        refine ⟨h3, ?_⟩
        obtain ⟨v, hv⟩ := Option.isSome_iff_exists.1 h3
        rw [hv]; rfl
      · rw [List.getElem?_map, Option.map_eq_some_iff] at hi
        obtain ⟨ys, h1, rfl⟩ := hi
        obtain ⟨q1, q2, q3⟩ := l2 i ys h1
        rw [mk_cells q1] at hj
        exact (q3 j c hj).2
theorem shFs_le : ∀ (f : Nat) (fs : List Field) (k : Nat) (l : List Sh) (z : Nat), shFs P f fs k = some (l, z) → k ≤ z
  | 0, fs, k, l, z, h => by simp [shFs] at h
  | f + 1, [], k, l, z, h => by simp [shFs] at h; omega
  | f + 1, x :: r, k, l, z, h => by
    simp only [shFs] at h
    cases hb : Nat.beq x.offset k
    · rw [hb] at h; cases h
    · rw [hb] at h
      simp only [cond_true] at h
      split at h
      · rename_i s l' z' h1 h2
        simp only [Option.some.injEq, Prod.mk.injEq] at h
        have := shFs_le f r _ _ _ h2
        omega
      · cases h
theorem opens : ∀ (f : Nat),
    (∀ t sh, shOf P f t = some sh → ∀ (n m : Nat) (cs : List Value) (x : DataW H × List MemPlace), DataW.trod enc P w base (fun _ => true) held n t cs = some x → Rows.uptoBulk x.1 ≤ m → Cl w sh m cs) ∧
    (∀ fs k l z, shFs P f fs k = some (l, z) → ∀ (n m : Nat) (cs : List Value), (∀ fl ∈ fs, ∃ x : DataW H × List MemPlace, DataW.trod enc P w base (fun _ => true) held n fl.type ((cs.drop fl.offset).take (P.cellsOf fl.type)) = some x ∧ Rows.uptoBulk x.1 ≤ m) → z = cs.length →
      (∃ xs : List D, OkL l m xs ∧ xs.length = z - k ∧ ∀ j c, xs[j]? = some c → Rep (SW w) w (cs.getD (k + j) undef) c)) := by
  intro f
  induction f with
  | zero => exact ⟨fun t sh h => by simp [shOf] at h, fun fs k l z h => by simp [shFs] at h⟩
  | succ f ih =>
    obtain ⟨ih1, ih2⟩ := ih
    constructor
    · intro t sh h n m cs x hx hm
      simp only [shOf] at h
      split at h
      · rename_i ht
        simp only [Option.some.injEq] at h; subst h
        obtain ⟨b, rfl, _⟩ := DataW.trod_bool ht hx
        refine ⟨[.bool b], by simp only [Ok]; exact ⟨b, rfl⟩, rfl, fun j c hj => ?_⟩
        cases j with
        | zero => simp at hj; subst hj; exact .bool
        | succ j => simp at hj
      · rename_i k ht
        simp only [Option.some.injEq] at h; subst h
        obtain ⟨b, rfl, _, hw⟩ := DataW.trod_int ht hx
        refine ⟨[.int k b], by simp only [Ok]; exact ⟨b, rfl, hw⟩, rfl, fun j c hj => ?_⟩
        cases j with
        | zero => simp at hj; subst hj; exact .int
        | succ j => simp at hj
      · rename_i ht
        simp only [Option.some.injEq] at h; subst h
        obtain ⟨b, rfl, rfl, _⟩ := DataW.trod_string ht hx
        refine ⟨[.str b.data.toList], by simp only [Ok]; exact ⟨_, rfl, by simpa [Rows.uptoBulk] using hm⟩, rfl, fun j c hj => ?_⟩
        cases j with
        | zero => simp at hj; subst hj; exact .str
        | succ j => simp at hj
      · rename_i e ht
        cases hb : ltb 0 (P.cellsOf e)
        · rw [hb] at h; cases h
        · rw [hb] at h
          simp only [cond_true] at h
          split at h
          · rename_i s hs
            simp only [Option.some.injEq] at h; subst h
            exact opens_list ht (Nat.le_of_ble_eq_true (by simpa [ltb, Nat.blt] using hb)) (fun n cs x h1 h2 => ih1 e s hs n m cs x h1 h2) hx hm
          · cases h
      · rename_i fs ht
        split at h
        · rename_i l z hs
          cases hb : Nat.beq z (P.cellsOf t)
          · rw [hb] at h; cases h
          · rw [hb] at h
            simp only [cond_true, Option.some.injEq] at h; subst h
            obtain ⟨xs, n', rfl, rfl, h1, h2, h3⟩ := DataW.trod_struct ht hx
            have hz := Nat.eq_of_beq_eq_true hb
            simp only [Rows.uptoBulk] at hm
            obtain ⟨ys, q1, q2, q3⟩ := ih2 _ _ _ _ hs n' m cs (fun fl hfl => by
              obtain ⟨i, hi⟩ := List.getElem?_of_mem hfl
              rw [Array.getElem?_toList] at hi
              have hil := (Array.getElem?_eq_some_iff.1 hi).1
              have h4 := h3 i fl hi
              rw [List.getElem?_eq_getElem (by omega)] at h4
              have := part_le (List.mem_map.2 ⟨_, List.getElem_mem (show i < xs.length by omega), rfl⟩ : (xs[i]'(by omega)).1 ∈ xs.map (·.1))
              exact ⟨_, h4, by omega⟩) (by omega)
            refine ⟨ys, by simp only [Ok]; exact q1, by omega, fun j c hj => ?_⟩
            have := q3 j c hj
            rwa [Nat.zero_add] at this
        · cases h
      · cases h
    · intro fs k l z h n m cs hfs hz
      cases fs with
      | nil =>
        simp only [shFs, Option.some.injEq, Prod.mk.injEq] at h
        obtain ⟨rfl, rfl⟩ := h
        exact ⟨[], by simp [OkL], by simp, fun j c hj => by simp at hj⟩
      | cons x r =>
        simp only [shFs] at h
        cases hb : Nat.beq x.offset k
        · rw [hb] at h; cases h
        · rw [hb] at h
          have hk := Nat.eq_of_beq_eq_true hb
          simp only [cond_true] at h
          split at h
          · rename_i s l' z' h1 h2
            simp only [Option.some.injEq, Prod.mk.injEq] at h
            obtain ⟨rfl, rfl⟩ := h
            have hle := shFs_le _ _ _ _ _ h2
            obtain ⟨y, hy, hym⟩ := hfs x List.mem_cons_self
            obtain ⟨a, p1, p2, p3⟩ := ih1 _ _ h1 n m _ y hy hym
            obtain ⟨b, q1, q2, q3⟩ := ih2 _ _ _ _ h2 n m cs (fun fl hfl => hfs fl (List.mem_cons_of_mem _ hfl)) hz
            have hal : a.length = P.cellsOf x.type := by
              rw [p2, List.length_take, List.length_drop]; omega
            refine ⟨a ++ b, by simp only [OkL]; exact ⟨a, b, rfl, p1, q1⟩, by rw [List.length_append]; omega, fun j c hj => ?_⟩
            rw [List.getElem?_append] at hj
            split at hj
            · rename_i hja
              have := p3 j c hj
              rw [List.getD_eq_getElem?_getD, List.getElem?_take, if_pos (by omega), List.getElem?_drop, hk, ← List.getD_eq_getElem?_getD] at this
              exact this
            · rename_i hja
              have := q3 _ c hj
              rwa [show k + P.cellsOf x.type + (j - a.length) = k + j by omega] at this
          · cases h
end
section
variable {H : Type} {enc : TypeId × Value → H} {P : Program} {w : World} {base base' : Nat} {held : Bool}
/-- A value of one cell that came in. -/
theorem open_one {t : TypeId} {v : Value} {d : DataW H} {ps : List MemPlace} {sh : Sh} (f : Nat) (hs : shOf P f t = some sh) (hv : v.cells = #[v]) (hd : DataW.Trod enc P w base (fun _ => true) held t v d ps) :
    ∃ x : D, Ok sh (Rows.uptoBulk d) [x] ∧ Rep (SW w) w v x := by
  obtain ⟨n, hn⟩ := hd
  obtain ⟨xs, h1, h2, h3⟩ := (opens f).1 t sh hs n _ _ _ hn (Nat.le_refl _)
  rw [hv] at h2 h3
  obtain ⟨x, rfl⟩ : ∃ x, xs = [x] := by
    match xs, h2 with
    | [x], _ => exact ⟨x, rfl⟩
  exact ⟨x, h1, h3 0 x rfl⟩
theorem open_list {t e : TypeId} {v : Value} {d : DataW H} {ps : List MemPlace} {sh : Sh} (f : Nat) (hs : shOf P f t = some sh) (ht : P.underlying t = some (.slice e)) (hv : Value.okWide P w .any base' t v) (hd : DataW.Trod enc P w base (fun _ => true) held t v d ps) :
    ∃ x : D, Ok sh (Rows.uptoBulk d) [x] ∧ Rep (SW w) w v x := by
  obtain ⟨a, l, c, rfl⟩ := okWide_slice ht hv
  exact open_one f hs rfl hd
theorem open_struct {t : TypeId} {fs : Array Field} {v : Value} {d : DataW H} {ps : List MemPlace} {sh : Sh} (f : Nat) (hs : shOf P f t = some sh) (ht : P.underlying t = some (.struct fs)) (hv : Value.okWide P w .any base' t v) (hd : DataW.Trod enc P w base (fun _ => true) held t v d ps) :
    ∃ xs : List D, Ok sh (Rows.uptoBulk d) xs ∧ Rep (SW w) w v (.agg xs) := by
  obtain ⟨cs, rfl, _⟩ := okWide_struct ht hv
  obtain ⟨n, hn⟩ := hd
  obtain ⟨xs, h1, h2, h3⟩ := (opens f).1 t sh hs n _ _ _ hn (Nat.le_refl _)
  refine ⟨xs, h1, .agg (by simpa [Value.cells] using h2) fun j c hj => ?_⟩
  have := h3 j c hj
  simpa [Value.cells, List.getD_eq_getElem?_getD, Array.getD_eq_getD_getElem?] using this
end
/-- A list of things, each of which is told so. -/
theorem list_of {α β : Type} {f : α → β} {Q : α → Prop} : ∀ (l : List β), (∀ y ∈ l, ∃ a, y = f a ∧ Q a) → ∃ u : List α, l = u.map f ∧ ∀ a ∈ u, Q a
  | [], _ => ⟨[], rfl, by simp⟩
  | y :: r, h => by
    obtain ⟨a, rfl, ha⟩ := h y List.mem_cons_self
    obtain ⟨u, rfl, hu⟩ := list_of r fun z hz => h z (List.mem_cons_of_mem _ hz)
    exact ⟨a :: u, rfl, fun b hb => by
      rcases List.mem_cons.1 hb with rfl | hb
      · exact ha
      · exact hu b hb⟩
/-- What a call of a function that answers says of the machine. -/
theorem pu_calls {P : Program} {f : FuncId} {ds : List D} {x : D} (h : Go.Wl.Con P f (ds.map .d) [] fun r hp => r = .d x ∧ hp = []) (w : World) (vals : List Value) (hl : vals.length = ds.length) (hr : ∀ j x, ds[j]? = some x → Rep (SW w) w (vals.getD j undef) x) :
    Calls P f vals.toArray w fun e w' => ∃ v g', e = .returned v ∧ Rep g' w' v x ∧ RowKit.Below w.heap.size w w' := by
  refine (Con.calls h w (fun _ => 0) (fun _ => default) vals (by simpa using hl) (fun j y hj => ?_)).mono ?_
  · rw [List.getElem?_map, Option.map_eq_some_iff] at hj
    obtain ⟨z, hz, rfl⟩ := hj
    exact .d (hr j z hz)
  · rintro e w' ⟨v, r, hp', g', h1, ⟨rfl, rfl⟩, h3, h4⟩
    cases h3 with
    | d h => exact ⟨v, g'.S, h1, h, h4⟩
theorem rep_bool {S : Nat → Nat → Prop} {w : World} {v : Value} {b : Bool} (h : Rep S w v (.bool b)) : v = .bool b := by
  cases h; rfl
/-- So a law is told true. -/
theorem pu_law {P : Program} {f : FuncId} {ds : List D} (h : Go.Wl.Con P f (ds.map .d) [] fun r hp => r = .d (.bool true) ∧ hp = []) (w : World) (vals : List Value) (hl : vals.length = ds.length) (hr : ∀ j x, ds[j]? = some x → Rep (SW w) w (vals.getD j undef) x) :
    Calls P f vals.toArray w fun e w' => e = .returned (.bool true) ∧ RowKit.Below w.heap.size w w' :=
  (pu_calls h w vals hl hr).mono fun e w' ⟨v, g', h1, h2, h3⟩ => ⟨by rw [h1, rep_bool h2], h3⟩
theorem reps_nil {S : Nat → Nat → Prop} {w : World} : ∀ (j : Nat) (x : D), ([] : List D)[j]? = some x → Rep S w (([] : List Value).getD j undef) x := fun j x h => by simp at h
theorem reps_cons {S : Nat → Nat → Prop} {w : World} {v : Value} {d : D} {vs : List Value} {ds : List D} (h : Rep S w v d) (hs : ∀ (j : Nat) (x : D), ds[j]? = some x → Rep S w (vs.getD j undef) x) : ∀ (j : Nat) (x : D), (d :: ds)[j]? = some x → Rep S w ((v :: vs).getD j undef) x := fun j x hj => by
  cases j with
  | zero => simp at hj; subst hj; exact h
  | succ j =>
    rw [List.getElem?_cons_succ] at hj
    have := hs j x hj
    simpa [List.getD_eq_getElem?_getD] using this
theorem i32_nat {x : Int} (h : (Lit.int .u32 x).wf = true) : ∃ n : Nat, x = (n : Int) ∧ n < 4294967296 := by
  simp [Lit.wf, IntKind.min, IntKind.max, IntKind.signed, IntKind.bits] at h
  exact ⟨x.toNat, by omega, by omega⟩
theorem i8_nat {x : Int} (h : (Lit.int .u8 x).wf = true) : ∃ n : UInt8, x = (n.toNat : Int) := by
  simp [Lit.wf, IntKind.min, IntKind.max, IntKind.signed, IntKind.bits] at h
  exact ⟨UInt8.ofNat x.toNat, by simp; omega⟩
theorem i64_rng {x : Int} (h : (Lit.int .i64 x).wf = true) : -9223372036854775808 ≤ x ∧ x < 9223372036854775808 := by
  simp [Lit.wf, IntKind.min, IntKind.max, IntKind.signed, IntKind.bits] at h
  omega
theorem list_u32 {l : List D} (h : ∀ y ∈ l, ∃ ys, y = (Sh.int .u32).mk ys ∧ ∃ n, ys = [.int .u32 n] ∧ (Lit.int .u32 n).wf = true) : ∃ u : List Nat, l = u.map (fun n => .int .u32 (n : Int)) ∧ ∀ n ∈ u, n < 4294967296 :=
  list_of l fun y hy => by
    obtain ⟨ys, rfl, n, rfl, hw⟩ := h y hy
    obtain ⟨n, rfl, hn⟩ := i32_nat hw
    exact ⟨n, rfl, hn⟩
theorem list_u8 {l : List D} (h : ∀ y ∈ l, ∃ ys, y = (Sh.int .u8).mk ys ∧ ∃ n, ys = [.int .u8 n] ∧ (Lit.int .u8 n).wf = true) : ∃ u : List UInt8, l = u.map (fun n => .int .u8 (n.toNat : Int)) := by
  obtain ⟨u, hu, _⟩ := list_of (f := fun n : UInt8 => D.int .u8 (n.toNat : Int)) (Q := fun _ => True) l fun y hy => by
    obtain ⟨ys, rfl, n, rfl, hw⟩ := h y hy
    obtain ⟨n, rfl⟩ := i8_nat hw
    exact ⟨n, rfl, trivial⟩
  exact ⟨u, hu⟩
theorem list_str {l : List D} {m : Nat} (h : ∀ y ∈ l, ∃ ys, y = Sh.str.mk ys ∧ ∃ s, ys = [.str s] ∧ s.length + 1 ≤ m) : ∃ u : List (List UInt8), l = u.map .str ∧ ∀ s ∈ u, s.length + 1 ≤ m :=
  list_of l fun y hy => by
    obtain ⟨ys, rfl, s, rfl, hw⟩ := h y hy
    exact ⟨s, rfl, hw⟩
theorem list_bool {l : List D} (h : ∀ y ∈ l, ∃ ys, y = Sh.bool.mk ys ∧ ∃ b, ys = [.bool b]) : ∃ u : List Bool, l = u.map .bool := by
  obtain ⟨u, hu, _⟩ := list_of (f := D.bool) (Q := fun _ => True) l fun y hy => by
    obtain ⟨ys, rfl, b, rfl⟩ := h y hy
    exact ⟨b, rfl, trivial⟩
  exact ⟨u, hu⟩
end Go.Proofs.Ytdeegjhnomdepaa.o

