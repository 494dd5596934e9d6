/- Values and memory told without addresses: what a value of the machine stands for. -/
import Derived.Orders
import Derived.RowKit3
import Derived.KernelRfl
set_option linter.unusedVariables false
namespace Go.Wl

/-- Data that nobody writes any more: numbers, texts, lists by what they hold. -/
inductive D where
  | int (k : IntKind) (n : Int)
  | bool (b : Bool)
  | str (s : List UInt8)
  | nilp
  | nilfunc
  | nilif
  | iface (t : TypeId) (x : D)
  | list (xs : List D)
  | cptr (x : D)
  | agg (cs : List D)
  | tup (vs : List D)
  | func (fn : Fn) (first caps : List D)
  deriving Inhabited

/-- The cells of a value in memory. -/
def D.cells : D → List D
  | .agg cs => cs
  | x => [x]
def D.width (x : D) : Nat := x.cells.length

/-- A value of the machine stands for data: S: the cells that stay as they are. -/
inductive Rep (S : Nat → Nat → Prop) (w : World) : Value → D → Prop where
  | int {k n} : Rep S w (.int k n) (.int k n)
  | bool {b} : Rep S w (.bool b) (.bool b)
  | str {s : ByteArray} : Rep S w (.string s) (.str s.data.toList)
  | nilp : Rep S w (.pointer none) .nilp
  | nilfunc : Rep S w .nilFunc .nilfunc
  | nilif : Rep S w .nilIface .nilif
  | iface {t v x} (h : Rep S w v x) : Rep S w (.iface t v) (.iface t x)
  | list {a : Option Addr} {len cap : Nat} {xs : List D} (sz : Nat) (vals : Nat → Nat → Value) (hl : xs.length = len) (hc : len ≤ cap)
      (hs : 0 < cap → ∃ b o, a = some ⟨b, o, none⟩) (hw : ∀ x ∈ xs, x.width = sz)
      (hm : ∀ i x j c b o, xs[i]? = some x → x.cells[j]? = some c → a = some ⟨b, o, none⟩ → S b (o + (i * sz + j)) ∧ w.cell? ⟨b, o + (i * sz + j), none⟩ = some (vals i j))
      (hr : ∀ i x j c, xs[i]? = some x → x.cells[j]? = some c → Rep S w (vals i j) c) : Rep S w (.slice a len cap) (.list xs)
  | cptr {b o : Nat} {x : D} (vals : Nat → Value) (hm : ∀ j c, x.cells[j]? = some c → S b (o + j) ∧ w.cell? ⟨b, o + j, none⟩ = some (vals j))
      (hr : ∀ j c, x.cells[j]? = some c → Rep S w (vals j) c) : Rep S w (.pointer (some ⟨b, o, none⟩)) (.cptr x)
  | agg {vs : Array Value} {cs : List D} (hl : cs.length = vs.size) (hr : ∀ j c, cs[j]? = some c → Rep S w (vs.getD j undef) c) : Rep S w (.agg vs) (.agg cs)
  | tup {vs : Array Value} {cs : List D} (hl : cs.length = vs.size) (hr : ∀ j c, cs[j]? = some c → Rep S w (vs.getD j undef) c) : Rep S w (.tuple vs) (.tup cs)
  | func {fn : Fn} {f c : Array Value} {fs cs : List D} (hf : fs.length = f.size) (hc : cs.length = c.size)
      (h1 : ∀ j x, fs[j]? = some x → Rep S w (f.getD j undef) x) (h2 : ∀ j x, cs[j]? = some x → Rep S w (c.getD j undef) x) : Rep S w (.func fn f c) (.func fn fs cs)

theorem Rep.mono {S S' : Nat → Nat → Prop} {w w' : World} (hS : ∀ b o, S b o → S' b o)
    (hw : ∀ b o, S b o → w'.cell? ⟨b, o, none⟩ = w.cell? ⟨b, o, none⟩) {v : Value} {x : D} (h : Rep S w v x) : Rep S' w' v x := by
  induction h with
  | int => exact .int
  | bool => exact .bool
  | str => exact .str
  | nilp => exact .nilp
  | nilfunc => exact .nilfunc
  | nilif => exact .nilif
  | iface _ ih => exact .iface ih
  | list sz vals hl hc hs hw' hm _ ih =>
    exact .list sz vals hl hc hs hw' (fun i x j c b o h1 h2 h3 => ⟨hS _ _ (hm i x j c b o h1 h2 h3).1, (hw _ _ (hm i x j c b o h1 h2 h3).1).trans (hm i x j c b o h1 h2 h3).2⟩) ih
  | cptr vals hm _ ih => exact .cptr vals (fun j c h1 => ⟨hS _ _ (hm j c h1).1, (hw _ _ (hm j c h1).1).trans (hm j c h1).2⟩) ih
  | agg hl _ ih => exact .agg hl ih
  | tup hl _ ih => exact .tup hl ih
  | func hf hc _ _ i1 i2 => exact .func hf hc i1 i2

/-- A value as the walk sees it. -/
inductive AV where
  | d (x : D)
  | nils
  | lit (xs : List D)
  | rs (xs ys : List D)
  | ptr (n off : Nat)
  | sl (n : Nat) (xs : List D)
  | slc (n off len cap : Nat)
  | agg (cs : List AV)
  | tup (vs : List AV)
  | func (fn : Fn) (first caps : List AV)
  | any
  deriving Inhabited

/-- Room behind a slice: where it begins, for how many elements, of how many cells each. -/
structure Tl where
  block : Nat
  off : Nat
  room : Nat
  sz : Nat
  deriving Inhabited
/-- What the names stand for: sealed cells, the blocks of objects, rooms. -/
structure G where
  S : Nat → Nat → Prop
  ρ : Nat → Nat
  τ : Nat → Tl

inductive Rel (g : G) (w : World) : Value → AV → Prop where
  | d {v x} (h : Rep g.S w v x) : Rel g w v (.d x)
  | nils : Rel g w (.slice none 0 0) .nils
  | lit {a : Option Addr} {len : Nat} {xs : List D} (h : Rep g.S w (.slice a len len) (.list xs)) : Rel g w (.slice a len len) (.lit xs)
  | rs {a : Option Addr} {len cap : Nat} {xs ys : List D} (h : Rep g.S w (.slice a cap cap) (.list (xs ++ ys))) (hl : len = xs.length) : Rel g w (.slice a len cap) (.rs xs ys)
  | ptr {n off} : Rel g w (.pointer (some ⟨g.ρ n, off, none⟩)) (.ptr n off)
  | sl {a : Option Addr} {len cap n : Nat} {xs : List D} (h : Rep g.S w (.slice a len cap) (.list xs)) (hw : ∀ x ∈ xs, x.width = (g.τ n).sz) (hc : cap = len + (g.τ n).room)
      (hp : 0 < (g.τ n).room → ∃ b o, a = some ⟨b, o, none⟩ ∧ b = (g.τ n).block ∧ o + len * (g.τ n).sz = (g.τ n).off) : Rel g w (.slice a len cap) (.sl n xs)
  | slc {n off len cap cap' : Nat} (hc : cap ≤ cap') : Rel g w (.slice (some ⟨g.ρ n, off, none⟩) len cap') (.slc n off len cap)
  | agg {vs : Array Value} {cs : List AV} (hl : cs.length = vs.size) (hr : ∀ j c, cs[j]? = some c → Rel g w (vs.getD j undef) c) : Rel g w (.agg vs) (.agg cs)
  | tup {vs : Array Value} {cs : List AV} (hl : cs.length = vs.size) (hr : ∀ j c, cs[j]? = some c → Rel g w (vs.getD j undef) c) : Rel g w (.tuple vs) (.tup cs)
  | func {fn : Fn} {f c : Array Value} {fs cs : List AV} (hf : fs.length = f.size) (hc : cs.length = c.size)
      (h1 : ∀ j x, fs[j]? = some x → Rel g w (f.getD j undef) x) (h2 : ∀ j x, cs[j]? = some x → Rel g w (c.getD j undef) x) : Rel g w (.func fn f c) (.func fn fs cs)
  | any {v} : Rel g w v .any

/-- The names that a value speaks of. -/
def AV.refs : AV → List Nat
  | .ptr n _ => [n]
  | .sl n _ => [n]
  | .slc n _ _ _ => [n]
  | .agg cs => refsL cs
  | .tup vs => refsL vs
  | .func _ f c => refsL f ++ refsL c
  | _ => []
where refsL : List AV → List Nat
  | [] => []
  | x :: r => x.refs ++ refsL r

theorem refsL_mem {n : Nat} {x : AV} {l : List AV} (hx : x ∈ l) (h : n ∈ x.refs) : n ∈ AV.refs.refsL l := by
  induction l with
  | nil => cases hx
  | cons y r ih =>
    unfold AV.refs.refsL
    rcases List.mem_cons.1 hx with rfl | hx
    · exact List.mem_append_left _ h
    · exact List.mem_append_right _ (ih hx)

/-- The world may go on where sealed cells stay and the names that the value speaks of stand for the same. -/
theorem Rel.mono {g g' : G} {w w' : World} (hS : ∀ b o, g.S b o → g'.S b o) (hw : ∀ b o, g.S b o → w'.cell? ⟨b, o, none⟩ = w.cell? ⟨b, o, none⟩) {v : Value} {x : AV}
    (h : Rel g w v x) (hn : ∀ n ∈ x.refs, g'.ρ n = g.ρ n ∧ g'.τ n = g.τ n) : Rel g' w' v x := by
  induction h with
  | d h => exact .d (h.mono hS hw)
  | nils => exact .nils
  | lit h => exact .lit (h.mono hS hw)
  | rs h hl => exact .rs (h.mono hS hw) hl
  | ptr => rw [← (hn _ (by simp [AV.refs])).1]; exact .ptr
  | sl h hx hc hp => exact .sl (h.mono hS hw) (by rw [(hn _ (by simp [AV.refs])).2]; exact hx) (by rw [(hn _ (by simp [AV.refs])).2]; exact hc) (by rw [(hn _ (by simp [AV.refs])).2]; exact hp)
  | slc hc => rw [← (hn _ (by simp [AV.refs])).1]; exact .slc hc
  | agg hl _ ih => exact .agg hl fun j c hj => ih j c hj fun n h => hn n (by unfold AV.refs; exact refsL_mem (List.mem_of_getElem? hj) h)
  | tup hl _ ih => exact .tup hl fun j c hj => ih j c hj fun n h => hn n (by unfold AV.refs; exact refsL_mem (List.mem_of_getElem? hj) h)
  | func hf hc _ _ i1 i2 =>
    exact .func hf hc (fun j c hj => i1 j c hj fun n h => hn n (by unfold AV.refs; exact List.mem_append_left _ (refsL_mem (List.mem_of_getElem? hj) h)))
      (fun j c hj => i2 j c hj fun n h => hn n (by unfold AV.refs; exact List.mem_append_right _ (refsL_mem (List.mem_of_getElem? hj) h)))
  | any => exact .any

/-- A list of named things: the first of a name counts. -/
def lk {α : Type} : List (Nat × α) → Nat → Option α
  | [], _ => none
  | (k, x) :: r, i => bif Nat.beq k i then some x else lk r i
theorem lk_cons {α : Type} (k : Nat) (x : α) (r : List (Nat × α)) (i : Nat) : lk ((k, x) :: r) i = if k = i then some x else lk r i := by
  by_cases h : k = i
  · subst h; simp [lk]
  · have : Nat.beq k i = false := by
      cases hb : Nat.beq k i
      · rfl
      · exact absurd (Nat.eq_of_beq_eq_true hb) h
    simp [lk, this, h]
theorem lk_mem {α : Type} {l : List (Nat × α)} {i : Nat} {x : α} (h : lk l i = some x) : (i, x) ∈ l := by
  induction l with
  | nil => simp [lk] at h
  | cons p r ih =>
    obtain ⟨k, y⟩ := p
    rw [lk_cons] at h
    split at h
    · rename_i e; subst e; simp at h; subst h; exact List.mem_cons_self
    · exact List.mem_cons_of_mem _ (ih h)

/-- An object in memory of our own: cells that may be written; room behind a slice; a range over a text. -/
inductive Ob where
  | cells (vs : List AV)
  | tail (sz : Nat)
  | iter (s : List UInt8) (pos : Nat)
  deriving Inhabited
abbrev Hp := List (Nat × Ob)
/-- What the walk knows at one place of the code: how many slots there are, slots, memory of our own. -/
structure St where
  n : Nat
  tm : List (Nat × AV)
  hp : Hp
  mt : List Nat := []
  nm : List (Nat × Nat) := []
def St.get (s : St) (i : Nat) : AV := match lk s.tm i with
  | some x => x
  | none => .any

def ownO (g : G) (n : Nat) : Ob → Nat → Nat → Prop
  | .tail _, b, o => 0 < (g.τ n).room ∧ b = (g.τ n).block ∧ (g.τ n).off ≤ o ∧ o < (g.τ n).off + (g.τ n).room * (g.τ n).sz
  | _, b, _ => b = g.ρ n
def ObRel (g : G) (w : World) (n : Nat) : Ob → Prop
  | .cells vs => ∃ c e fr, w.heap[g.ρ n]? = some (.cells c e fr) ∧ vs.length ≤ c.size ∧ (∀ j, j < c.size → ¬ (fr.1 ≤ j ∧ j < fr.2)) ∧ ∀ j x, vs[j]? = some x → Rel g w (c.getD j undef) x
  | .tail sz => (g.τ n).sz = sz ∧ 0 < sz ∧ (0 < (g.τ n).room → ∃ c e fr, w.heap[(g.τ n).block]? = some (.cells c e fr) ∧ (g.τ n).off + (g.τ n).room * sz ≤ c.size ∧ ∀ j, j < c.size → ¬ (fr.1 ≤ j ∧ j < fr.2))
  | .iter s pos => w.heap[g.ρ n]? = some (.stringIter ⟨s.toArray⟩ pos)
def Own (g : G) (hp : Hp) (b o : Nat) : Prop := ∃ n ob, lk hp n = some ob ∧ ownO g n ob b o

structure SimH (g : G) (hp : Hp) (w : World) : Prop where
  ob : ∀ n ob, lk hp n = some ob → ObRel g w n ob
  sep : ∀ b o, g.S b o → ¬ Own g hp b o
  dis : ∀ n m ob pb, lk hp n = some ob → lk hp m = some pb → n ≠ m → ∀ b o, ownO g n ob b o → ¬ ownO g m pb b o
  ex : ∀ b o, g.S b o → ∃ v, w.cell? ⟨b, o, none⟩ = some v
structure Sim (g : G) (s : St) (a : Act) (w : World) : Prop where
  n : a.tmps.size = s.n
  df : a.defers = []
  tm : ∀ i, Rel g w (a.tmps.getD i undef) (s.get i)
  hp : SimH g s.hp w

/-- How the world may go on: what is not our own stays. -/
structure Ev (o o' : Nat → Nat → Prop) (g g' : G) (w w' : World) : Prop where
  os : w'.os = w.os
  tape : w'.tape = w.tape
  output : w'.output = w.output
  size : w.heap.size ≤ w'.heap.size
  blk : ∀ b, b < w.heap.size → (∀ f, ¬ o b f) → w'.heap[b]? = w.heap[b]?
  cell : ∀ b f, b < w.heap.size → ¬ o b f → w'.cell? ⟨b, f, none⟩ = w.cell? ⟨b, f, none⟩
  shp : ∀ (b : Nat) (c : Array Value) (e : TypeId) (fr : Nat × Nat), w.heap[b]? = some (.cells c e fr) → ∃ c' : Array Value, w'.heap[b]? = some (.cells c' e fr) ∧ c'.size = c.size
  S1 : ∀ b f, g.S b f → g'.S b f
  S2 : ∀ b f, g'.S b f → g.S b f ∨ o b f ∨ w.heap.size ≤ b
  o2 : ∀ b f, o' b f → o b f ∨ w.heap.size ≤ b

theorem Ev.refl (o : Nat → Nat → Prop) (g : G) (w : World) : Ev o o g g w w :=
  ⟨rfl, rfl, rfl, Nat.le_refl _, fun _ _ _ => rfl, fun _ _ _ _ => rfl, fun _ c _ _ h => ⟨c, h, rfl⟩, fun _ _ h => h, fun _ _ h => .inl h, fun _ _ h => .inl h⟩
theorem Ev.trans {o o' o'' : Nat → Nat → Prop} {g g' g'' : G} {w w' w'' : World} (h : Ev o o' g g' w w') (k : Ev o' o'' g' g'' w' w'') : Ev o o'' g g'' w w'' where
  os := k.os.trans h.os
  tape := k.tape.trans h.tape
  output := k.output.trans h.output
  size := Nat.le_trans h.size k.size
  blk b hb hf := (k.blk b (Nat.lt_of_lt_of_le hb h.size) fun f hf' => by rcases h.o2 b f hf' with h1 | h1; exact hf f h1; omega).trans (h.blk b hb hf)
  cell b f hb hf := (k.cell b f (Nat.lt_of_lt_of_le hb h.size) fun hf' => by rcases h.o2 b f hf' with h1 | h1; exact hf h1; omega).trans (h.cell b f hb hf)
  shp b c e fr hc := by
    obtain ⟨c1, h1, e1⟩ := h.shp b c e fr hc
    obtain ⟨c2, h2, e2⟩ := k.shp b c1 e fr h1
    exact ⟨c2, h2, e2.trans e1⟩
  S1 b f hs := k.S1 b f (h.S1 b f hs)
  S2 b f hs := by
    rcases k.S2 b f hs with h1 | h1 | h1
    · exact h.S2 b f h1
    · rcases h.o2 b f h1 with h2 | h2
      · exact .inr (.inl h2)
      · exact .inr (.inr h2)
    · exact .inr (.inr (Nat.le_trans h.size h1))
  o2 b f hs := by
    rcases k.o2 b f hs with h1 | h1
    · exact h.o2 b f h1
    · exact .inr (Nat.le_trans h.size h1)

theorem SimH.lt {g : G} {hp : Hp} {w : World} (h : SimH g hp w) {b o : Nat} (hs : g.S b o) : b < w.heap.size := by
  obtain ⟨v, hv⟩ := h.ex b o hs
  exact World.block_lt_of_cell? _ _ hv
/-- Sealed cells stay. -/
theorem Ev.sealed {hp : Hp} {o' : Nat → Nat → Prop} {g g' : G} {w w' : World} (h : Ev (Own g hp) o' g g' w w') (k : SimH g hp w) (b f : Nat) (hs : g.S b f) : w'.cell? ⟨b, f, none⟩ = w.cell? ⟨b, f, none⟩ :=
  h.cell b f (k.lt hs) (k.sep b f hs)
end Go.Wl

