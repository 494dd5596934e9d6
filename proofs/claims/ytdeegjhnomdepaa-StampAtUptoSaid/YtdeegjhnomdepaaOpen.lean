/- What a reading of the arguments tells of memory, by the arguments' types; and what the bound on the reading's bulk gives. -/
import Derived.Test.YtdeegjhnomdepaaBase
import Derived.Test.YtdeegjhnomdepaaRows
import Derived.WalkKit
import Derived.ProofKit
import Derived.OpenShut
import Derived.ShutString
import Derived.ChangeOld
set_option linter.unusedVariables false
set_option linter.unusedSimpArgs false
namespace Go.Proofs.Ytdeegjhnomdepaa.b
open Go.RowKit Go.ChangeShapes Go.WideShapes Go.ChangeAt

theorem one_le {H : Type} (d : DataW H) : 1 ≤ Rows.uptoBulk d := by
  cases d with
  | lit l => cases l <;> simp [Rows.uptoBulk]
  | nil => simp [Rows.uptoBulk]
  | ptr d => simp [Rows.uptoBulk]
  | slice elems spare => simp [Rows.uptoBulk]
  | agg parts => simp [Rows.uptoBulk]
  | iface t d => simp [Rows.uptoBulk]
  | map entries => simp [Rows.uptoBulk]
  | held h => simp [Rows.uptoBulk]
theorem part_le {H : Type} {d : DataW H} {l : List (DataW H)} (h : d ∈ l) : Rows.uptoBulk d ≤ Rows.uptoBulkAll l := by
  induction l with
  | nil => cases h
  | cons x r ih =>
    simp only [Rows.uptoBulkAll]
    cases List.mem_cons.1 h with
    | inl e => subst e; omega
    | inr e => have := ih e; omega
theorem length_le {H : Type} (l : List (DataW H)) : l.length ≤ Rows.uptoBulkAll l := by
  induction l with
  | nil => simp [Rows.uptoBulkAll]
  | cons x r ih => have := one_le x; simp only [Rows.uptoBulkAll, List.length_cons]; omega
theorem slice_le {H : Type} (elems spare : List (DataW H)) : elems.length + spare.length + 1 ≤ Rows.uptoBulk (.slice elems spare) := by
  have h1 := length_le elems
  have h2 := length_le spare
  simp only [Rows.uptoBulk]
  omega

theorem bytes_of_ints (zs : List Int) (h : ∀ n ∈ zs, (Lit.int .u8 n).wf = true) : zs.map (Value.int .u8) = bvs (zs.map fun n => UInt8.ofNat n.toNat) := by
  simp only [bvs, List.map_map]
  refine List.map_congr_left fun n hn => ?_
  have hw := h n hn
  simp [Lit.wf, IntKind.min, IntKind.max, IntKind.signed, IntKind.bits] at hw
  simp only [Function.comp, ofNat_cast]
  congr 1
  omega

section
variable {H : Type} {enc : TypeId × Value → H} {P : Program} {w : World} {base : Nat} {spare : Nat → Bool} {held : Bool}
/-- A slice of bytes that came in. -/
theorem opened_bytes {t e : TypeId} {A : Option Addr} {len cap : Nat} {d : DataW H} {ps : List MemPlace} (ht : P.underlying t = some (.slice e)) (he : P.underlying e = some (.int .u8)) (hc : P.cellsOf e = 1)
    (hd : DataW.Trod enc P w base spare held t (.slice A len cap) d ps) : ∃ xs : List UInt8, Rv w A (bvs xs) ∧ xs.length = len ∧ len ≤ cap ∧ cap ≤ maxLen ∧ len + 1 ≤ Rows.uptoBulk d := by
  obtain ⟨fuel, hf⟩ := hd
  rcases open_ints ht he hc hf with ⟨hcs, hx⟩ | ⟨a, len', cap', zs, hcs, _, hl, hm, hz, hx, hcell, hwz⟩
  · simp [Value.cells] at hcs
    obtain ⟨rfl, rfl, rfl⟩ := hcs
    exact ⟨[], Rv.nil _ _, rfl, Nat.le_refl _, by simp [maxLen], one_le d⟩
  · simp [Value.cells] at hcs
    obtain ⟨rfl, rfl, rfl⟩ := hcs
    simp only [Prod.mk.injEq] at hx
    have hlz : len ≤ zs.length := by rw [hz]; split <;> omega
    refine ⟨(zs.take len).map fun n => UInt8.ofNat n.toNat, ?_, by simp; omega, hl, hm, ?_⟩
    · rw [← bytes_of_ints _ (fun n hn => hwz n (List.mem_of_mem_take hn))]
      intro i v hv
      rw [List.getElem?_map, List.getElem?_take] at hv
      split at hv
      · rename_i hi
        refine ⟨a, rfl, ?_⟩
        rw [hcell i (by omega)]
        rw [List.getElem?_eq_getElem (by omega)] at hv
        simp at hv
        rw [← hv]
        simp [List.getD, List.getElem?_eq_getElem (show i < zs.length by omega)]
      · cases hv
    · rw [hx.1]
      have := slice_le (lits (H := H) .u8 (zs.take len)) (lits .u8 (zs.drop len))
      have h2 : (lits (H := H) .u8 (zs.take len)).length = len := by simp [lits]; omega
      omega
theorem collect {α : Type} (mk : α → Value) (wt : α → Nat) (Q : α → Prop) (a : Addr) : ∀ (l : List (DataW H × List MemPlace)) (k : Nat),
    (∀ i y, l[i]? = some y → ∃ x, w.cell? (a.add (k + i)) = some (mk x) ∧ wt x ≤ Rows.uptoBulk y.1 ∧ Q x) →
    ∃ xs : List α, xs.length = l.length ∧ (∀ i x, xs[i]? = some x → w.cell? (a.add (k + i)) = some (mk x)) ∧ (xs.map wt).sum ≤ Rows.uptoBulkAll (l.map (·.1)) ∧ ∀ x ∈ xs, Q x := by
  intro l
  induction l with
  | nil => intro k h; exact ⟨[], rfl, by simp, by simp, by simp⟩
  | cons y l ih =>
    intro k h
    obtain ⟨x, h1, h2, h3⟩ := h 0 y rfl
    obtain ⟨xs, k1, k2, k3, k4⟩ := ih (k + 1) (fun i y hy => by
      have := h (i + 1) y hy
      rwa [show k + (i + 1) = k + 1 + i by omega] at this)
    refine ⟨x :: xs, by simp [k1], ?_, ?_, ?_⟩
    · intro i z hz
      cases i with
      | zero => simp at hz; subst hz; exact h1
      | succ i =>
        rw [show k + (i + 1) = k + 1 + i by omega]
        exact k2 i z hz
    · simp only [List.map_cons, List.sum_cons, Rows.uptoBulkAll]; omega
    · intro z hz
      rcases List.mem_cons.1 hz with rfl | hz
      · exact h3
      · exact k4 z hz
/-- A slice that came in, whose elements take one cell each. -/
theorem opened_one {α : Type} (mk : α → Value) (wt : α → Nat) (Q : α → Prop) {t e : TypeId} {A : Option Addr} {len cap : Nat} {d : DataW H} {ps : List MemPlace} (ht : P.underlying t = some (.slice e)) (hc : P.cellsOf e = 1)
    (hel : ∀ n cs y, DataW.trod enc P w base spare held n e cs = some y → ∃ x, cs = [mk x] ∧ wt x ≤ Rows.uptoBulk y.1 ∧ Q x)
    (hd : DataW.Trod enc P w base spare held t (.slice A len cap) d ps) : ∃ xs : List α, Rv w A (xs.map mk) ∧ xs.length = len ∧ len ≤ cap ∧ cap ≤ maxLen ∧ len + 1 ≤ Rows.uptoBulk d ∧ (xs.map wt).sum + 1 ≤ Rows.uptoBulk d ∧ ∀ x ∈ xs, Q x := by
  obtain ⟨fuel, hf⟩ := hd
  rcases DataW.trod_slice ht hf with ⟨hcs, hx⟩ | ⟨a, len', cap', elems, rest, n, _, hcs, hx, hb, hl, hm, hlen, hel', hsp, hns⟩
  · simp [Value.cells] at hcs
    obtain ⟨rfl, rfl, rfl⟩ := hcs
    exact ⟨[], Rv.nil _ _, rfl, Nat.le_refl _, by simp [maxLen], one_le d, by simpa using one_le d, by simp⟩
  · simp [Value.cells] at hcs
    obtain ⟨rfl, rfl, rfl⟩ := hcs
    simp only [Prod.mk.injEq] at hx
    obtain ⟨xs, k1, k2, k3, k4⟩ := collect (w := w) mk wt Q a elems 0 (fun i y hy => by
      have hi : i < len := by rw [← hlen]; exact (List.getElem?_eq_some_iff.1 hy).1
      have h1 := hel' i hi
      rw [hy, hc, Nat.mul_one, Option.bind_eq_some_iff] at h1
      obtain ⟨cs', hcs', hy'⟩ := h1
      obtain ⟨x, rfl, h2, h3⟩ := hel n cs' y hy'
      exact ⟨x, by rw [Nat.zero_add]; exact cell_of_cells?_one hcs', h2, h3⟩)
    refine ⟨xs, ?_, by omega, hl, hm, ?_, ?_, k4⟩
    · intro i v hv
      rw [List.getElem?_map, Option.map_eq_some_iff] at hv
      obtain ⟨x, hx', rfl⟩ := hv
      have := k2 i x hx'
      rw [Nat.zero_add] at this
      exact ⟨a, rfl, this⟩
    · rw [hx.1]
      have := slice_le (elems.map (·.1)) (rest.map (·.1))
      simp only [List.length_map] at this
      omega
    · rw [hx.1]
      simp only [Rows.uptoBulk]
      omega
theorem opened_bools {t e : TypeId} {A : Option Addr} {len cap : Nat} {d : DataW H} {ps : List MemPlace} (ht : P.underlying t = some (.slice e)) (he : P.underlying e = some .bool) (hc : P.cellsOf e = 1)
    (hd : DataW.Trod enc P w base spare held t (.slice A len cap) d ps) : ∃ xs : List Bool, Rv w A (xs.map Value.bool) ∧ xs.length = len ∧ len ≤ cap ∧ cap ≤ maxLen ∧ len + 1 ≤ Rows.uptoBulk d := by
  obtain ⟨xs, h1, h2, h3, h4, h5, _, _⟩ := opened_one Value.bool (fun _ => 0) (fun _ => True) ht hc (fun n cs y h => by
    obtain ⟨b, h1, h2⟩ := DataW.trod_bool he h
    exact ⟨b, h1, Nat.zero_le _, trivial⟩) hd
  exact ⟨xs, h1, h2, h3, h4, h5⟩
/-- A number of a kind is at least 0. -/
theorem u64_nat {x : Int} (h : (Lit.int .u64 x).wf = true) : ∃ n : Nat, x = (n : Int) ∧ n < 256 ^ 8 := by
  simp [Lit.wf, IntKind.min, IntKind.max, IntKind.signed, IntKind.bits] at h
  exact ⟨x.toNat, by omega, by omega⟩
end
end Go.Proofs.Ytdeegjhnomdepaa.b

