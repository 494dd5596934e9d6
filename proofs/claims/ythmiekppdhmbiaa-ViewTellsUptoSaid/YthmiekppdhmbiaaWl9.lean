/- Values and memory told without addresses: stores of many cells; values that lose a mark. -/
import Derived.Test.YthmiekppdhmbiaaWl8
set_option linter.unusedVariables false
set_option linter.unusedSimpArgs false
namespace Go.Wl
variable {P : Program}

/-- A row of cells with some written. -/
def putA : Array Value → Nat → List Value → Array Value
  | c, _, [] => c
  | c, o, v :: r => putA (c.setIfInBounds o v) (o + 1) r
theorem putA_size : ∀ (vs : List Value) (c : Array Value) (o : Nat), (putA c o vs).size = c.size
  | [], _, _ => rfl
  | v :: r, c, o => by rw [putA, putA_size r]; simp
theorem putA_get : ∀ (vs : List Value) (c : Array Value) (o j : Nat), o + vs.length ≤ c.size → (putA c o vs)[j]? = if o ≤ j ∧ j < o + vs.length then vs[j - o]? else c[j]?
  | [], c, o, j, _ => by rw [putA, if_neg (by simp only [List.length_nil]; omega)]
  | v :: r, c, o, j, h => by
    simp only [List.length_cons] at h
    rw [putA, putA_get r _ _ _ (by simp; omega)]
    by_cases h1 : o + 1 ≤ j ∧ j < o + 1 + r.length
    · rw [if_pos h1, if_pos (by simp; omega), show j - o = (j - (o + 1)) + 1 by omega]; simp
    · rw [if_neg h1]
      by_cases h2 : o = j
      · subst h2
        rw [if_pos (by simp)]
        simp [show o < c.size by omega]
      · rw [if_neg (by simp; omega), Array.getElem?_setIfInBounds_ne h2]
theorem wr_wr (w : World) (b : Nat) (x y : Obj) : wr (wr w b x) b y = wr w b y := by simp [wr]
theorem setCell_wr {w : World} {b o : Nat} {c : Array Value} {e : TypeId} {fr : Nat × Nat} (h : w.heap[b]? = some (.cells c e fr)) (v : Value) : w.setCell ⟨b, o, none⟩ v = wr w b (.cells (c.setIfInBounds o v) e fr) := by
  unfold World.setCell wr
  congr 1
  apply Array.ext_getElem?
  intro i
  rw [Array.getElem?_modify, Array.getElem?_setIfInBounds]
  by_cases hi : b = i
  · subst hi
    rw [if_pos rfl, if_pos rfl, h, if_pos (Array.getElem?_eq_some_iff.1 h).1]
    rfl
  · rw [if_neg hi, if_neg hi]
theorem run_stores (b off : Nat) (e : TypeId) (fr : Nat × Nat) : ∀ (vs : List Value) (i : Nat) (c : Array Value) (w : World), w.heap[b]? = some (.cells c e fr) → off + i + vs.length ≤ c.size →
    (∀ j, j < c.size → ¬ (fr.1 ≤ j ∧ j < fr.2)) → (∀ v ∈ vs, v.oneCell' = true) → (storeCells ⟨b, off, none⟩ vs i).run P w = .ok () (wr w b (.cells (putA c (off + i) vs) e fr))
  | [], i, c, w, hb, _, _, _ => by
    have : wr w b (.cells (putA c (off + i) []) e fr) = w := by
      unfold wr putA
      have : w.heap.setIfInBounds b (.cells c e fr) = w.heap := by
        apply Array.ext_getElem?
        intro j
        rw [Array.getElem?_setIfInBounds]
        by_cases hj : b = j
        · subst hj; rw [if_pos rfl, if_pos (Array.getElem?_eq_some_iff.1 hb).1, hb]
        · rw [if_neg hj]
      rw [this]
    rw [this]; rfl
  | v :: r, i, c, w, hb, hle, hfr, h1 => by
    simp only [List.length_cons] at hle
    have hlt : b < w.heap.size := (Array.getElem?_eq_some_iff.1 hb).1
    have hst : (store ((⟨b, off, none⟩ : Addr).add i) v).run P w = .ok () (wr w b (.cells (c.setIfInBounds (off + i) v) e fr)) := by
      rw [Addr.add_lit, run_store P w _ v _ (h1 v (by simp))]
      have hc : w.cell? ⟨b, off + i, none⟩ = some c[off + i] := by rw [cell_of hb]; simp [show off + i < c.size by omega]
      have hz := frozen_of (o := off + i) hb (hfr _ (by omega))
      simp only [stored, hc, hz]
      rw [← setCell_wr hb]
      rfl
    have hb' : (wr w b (.cells (c.setIfInBounds (off + i) v) e fr)).heap[b]? = some (.cells (c.setIfInBounds (off + i) v) e fr) := by rw [wr_heap hlt, if_pos rfl]
    have ih := run_stores b off e fr r (i + 1) _ _ hb' (by simp; omega) (by simpa using hfr) (fun x hx => h1 x (by simp [hx]))
    simp only [storeCells, Sem.run_bind, hst, Result.andThen_ok, ih, wr_wr]
    rfl

/-- A value without the right to grow under a name. -/
def AV.untag (n : Nat) : AV → AV
  | .sl m xs => bif Nat.beq m n then .d (.list xs) else .sl m xs
  | .agg cs => .agg (untagL n cs)
  | .tup cs => .tup (untagL n cs)
  | .func fn f c => .func fn (untagL n f) (untagL n c)
  | x => x
where untagL (n : Nat) : List AV → List AV
  | [] => []
  | x :: r => x.untag n :: untagL n r
theorem untagL_map (n : Nat) : ∀ l : List AV, AV.untag.untagL n l = l.map (AV.untag n)
  | [] => rfl
  | x :: r => by rw [AV.untag.untagL, untagL_map n r]; rfl
theorem untag_rel {g : G} {w : World} {v : Value} {x : AV} (n : Nat) (h : Rel g w v x) : Rel g w v (x.untag n) := by
  induction h with
  | sl h hw hc hp =>
    rename_i m xs
    unfold AV.untag
    cases Nat.beq m n
    · exact .sl h hw hc hp
    · exact .d h
  | agg hl _ ih =>
    unfold AV.untag
    rw [untagL_map]
    refine .agg (by simpa using hl) fun j c hj => ?_
    simp only [List.getElem?_map, Option.map_eq_some_iff] at hj
    obtain ⟨c', h1, rfl⟩ := hj
    exact ih j c' h1
  | tup hl _ ih =>
    unfold AV.untag
    rw [untagL_map]
    refine .tup (by simpa using hl) fun j c hj => ?_
    simp only [List.getElem?_map, Option.map_eq_some_iff] at hj
    obtain ⟨c', h1, rfl⟩ := hj
    exact ih j c' h1
  | func hf hc _ _ i1 i2 =>
    unfold AV.untag
    rw [untagL_map, untagL_map]
    refine .func (by simpa using hf) (by simpa using hc) (fun j c hj => ?_) (fun j c hj => ?_)
    · simp only [List.getElem?_map, Option.map_eq_some_iff] at hj
      obtain ⟨c', h1, rfl⟩ := hj
      exact i1 j c' h1
    · simp only [List.getElem?_map, Option.map_eq_some_iff] at hj
      obtain ⟨c', h1, rfl⟩ := hj
      exact i2 j c' h1
  | d h => exact .d h
  | nils => exact .nils
  | lit h => exact .lit h
  | rs h hl => exact .rs h hl
  | ptr => exact .ptr
  | slc hc => exact .slc hc
  | any => exact .any
def Ob.untag (n : Nat) : Ob → Ob
  | .cells vs => .cells (AV.untag.untagL n vs)
  | x => x
def tmMap (f : AV → AV) : List (Nat × AV) → List (Nat × AV)
  | [] => []
  | (k, x) :: r => (k, f x) :: tmMap f r
def hpMap (f : Ob → Ob) : Hp → Hp
  | [] => []
  | (k, x) :: r => (k, f x) :: hpMap f r
theorem lk_tmMap (f : AV → AV) : ∀ (l : List (Nat × AV)) (i : Nat), lk (tmMap f l) i = (lk l i).map f
  | [], _ => rfl
  | (k, x) :: r, i => by rw [tmMap, lk_cons, lk_cons, lk_tmMap f r]; split <;> rfl
theorem lk_hpMap (f : Ob → Ob) : ∀ (l : Hp) (i : Nat), lk (hpMap f l) i = (lk l i).map f
  | [], _ => rfl
  | (k, x) :: r, i => by rw [hpMap, lk_cons, lk_cons, lk_hpMap f r]; split <;> rfl
def St.untag (s : St) (n : Nat) : St := { s with tm := tmMap (AV.untag n) s.tm, hp := hpMap (Ob.untag n) s.hp }
theorem own_untag (g : G) (n m : Nat) (ob : Ob) (b o : Nat) : ownO g m (ob.untag n) b o ↔ ownO g m ob b o := by cases ob <;> simp [Ob.untag, ownO]
theorem SimH.untag {g : G} {hp : Hp} {w : World} (h : SimH g hp w) (n : Nat) : SimH g (hpMap (Ob.untag n) hp) w ∧ ∀ b o, Own g (hpMap (Ob.untag n) hp) b o ↔ Own g hp b o := by
  have hlk : ∀ m ob, lk (hpMap (Ob.untag n) hp) m = some ob → ∃ ob0, lk hp m = some ob0 ∧ ob = ob0.untag n := by
    intro m ob hm
    rw [lk_hpMap, Option.map_eq_some_iff] at hm
    obtain ⟨ob0, h1, rfl⟩ := hm
    exact ⟨ob0, h1, rfl⟩
  have ho : ∀ b o, Own g (hpMap (Ob.untag n) hp) b o ↔ Own g hp b o := by
    intro b o
    constructor
    · rintro ⟨m, ob, hm, ho⟩
      obtain ⟨ob0, h1, rfl⟩ := hlk m ob hm
      exact ⟨m, ob0, h1, (own_untag g n m ob0 b o).1 ho⟩
    · rintro ⟨m, ob, hm, ho⟩
      exact ⟨m, ob.untag n, by rw [lk_hpMap, hm]; rfl, (own_untag g n m ob b o).2 ho⟩
  refine ⟨⟨fun m ob hm => ?_, fun b o hs hO => h.sep b o hs ((ho b o).1 hO), fun m m' o1 o2 h1 h2 hne b o ho1 ho2 => ?_, h.ex⟩, ho⟩
  · obtain ⟨ob0, h1, rfl⟩ := hlk m ob hm
    have := h.ob m ob0 h1
    cases ob0 with
    | cells vs =>
      obtain ⟨c, e, fr, q1, q2, q3, q4⟩ := this
      refine ⟨c, e, fr, q1, by rw [untagL_map, List.length_map]; exact q2, q3, fun j x hx => ?_⟩
      rw [untagL_map, List.getElem?_map, Option.map_eq_some_iff] at hx
      obtain ⟨x0, h2, rfl⟩ := hx
      exact untag_rel n (q4 j x0 h2)
    | tail sz => exact this
    | iter s pos => exact this
  · obtain ⟨p1, h1', rfl⟩ := hlk m o1 h1
    obtain ⟨p2, h2', rfl⟩ := hlk m' o2 h2
    exact h.dis m m' p1 p2 h1' h2' hne b o ((own_untag g n m p1 b o).1 ho1) ((own_untag g n m' p2 b o).1 ho2)
theorem Sim.untag {g : G} {s : St} {a : Act} {w : World} (h : Sim g s a w) (n : Nat) : Sim g (s.untag n) a w := by
  refine ⟨h.n, h.df, fun i => ?_, (h.hp.untag n).1⟩
  have := h.tm i
  unfold St.get St.untag at *
  simp only [lk_tmMap]
  cases hl : lk s.tm i with
  | none => exact .any
  | some x => rw [hl] at this; exact untag_rel n this
end Go.Wl

