/- Walks over chapter 8: the reference's Parse. -/
import Derived.Test.YtdeegjhnomdepaaSt7
import Derived.Test.YtdeegjhnomdepaaStQ
import Derived.Test.YtdeegjhnomdepaaSt6
import Derived.Test.YtdeegjhnomdepaaFloat
import Derived.Deep.RegionLaw
import Derived.Lib.SmallJoins
set_option linter.unusedVariables false
set_option linter.unusedSimpArgs false
namespace Go.Proofs.Ytdeegjhnomdepaa.st
open Go.RowKit Go.Proofs.Ytdeegjhnomdepaa.b

theorem idx_get (l : List (List UInt8)) (s : List UInt8) : ∀ n, idx l s = n + 1 → l.getD n [] = s := by
  induction l with
  | nil => intro n h; simp [idx] at h
  | cons x r ih =>
    intro n h
    unfold idx at h
    split at h
    · rename_i hx
      obtain rfl : n = 0 := by omega
      simpa using hx
    · split at h
      · cases h
      · rename_i q hq
        obtain rfl : n = q + 1 := by omega
        simpa using ih q hq
theorem idx_le (l : List (List UInt8)) (s : List UInt8) : idx l s ≤ l.length := by
  induction l with
  | nil => simp [idx]
  | cons x r ih =>
    unfold idx
    split
    · simp
    · split
      · simp
      · rename_i q hq; rw [hq] at ih; simp; omega
theorem mons_eq (s : List UInt8) (n : Nat) (h1 : 1 ≤ n) (h2 : n ≤ 12) : (mons.getD (n - 1) [] == s) = decide (idx mons s = n) := by
  by_cases h : idx mons s = n
  · rw [decide_eq_true h, beq_iff_eq]
    exact idx_get mons s (n - 1) (by omega)
  · rw [decide_eq_false h, beq_eq_false_iff_ne]
    rintro rfl
    apply h
    clear h
    have hn : n = 1 ∨ n = 2 ∨ n = 3 ∨ n = 4 ∨ n = 5 ∨ n = 6 ∨ n = 7 ∨ n = 8 ∨ n = 9 ∨ n = 10 ∨ n = 11 ∨ n = 12 := by omega
    rcases hn with rfl | rfl | rfl | rfl | rfl | rfl | rfl | rfl | rfl | rfl | rfl | rfl <;> decide +kernel
theorem nmTwo : (Try.f21.name == "runtime.NumGoroutine") = false := by kernel_rfl
def pat : List UInt8 := [46, 46, 45, 46, 46, 46, 45, 46, 46, 46, 46, 32, 46, 46, 58, 46, 46, 58, 46, 46, 32, 46, 46, 46, 46, 46]
def okPat (xs : List UInt8) (n : Nat) : Prop := ∀ i, i < n → pat.getD i 0 = 46 ∨ xs.getD i 0 = pat.getD i 0
theorem okPat_iff (d0 d1 s2 m3 m4 m5 s6 y7 y8 y9 y10 s11 h12 h13 s14 i15 i16 s17 c18 c19 s20 z21 z22 z23 z24 z25 : UInt8) : okPat [d0, d1, s2, m3, m4, m5, s6, y7, y8, y9, y10, s11, h12, h13, s14, i15, i16, s17, c18, c19, s20, z21, z22, z23, z24, z25] 26 ↔ s2 = 45 ∧ s6 = 45 ∧ s11 = 32 ∧ s14 = 58 ∧ s17 = 58 ∧ s20 = 32 := by
  constructor
  · intro h
    have h2 := h 2 (by omega)
    have h6 := h 6 (by omega)
    have h11 := h 11 (by omega)
    have h14 := h 14 (by omega)
    have h17 := h 17 (by omega)
    have h20 := h 20 (by omega)
    simpa [pat] using And.intro h2 (And.intro h6 (And.intro h11 (And.intro h14 (And.intro h17 h20))))
  · rintro ⟨rfl, rfl, rfl, rfl, rfl, rfl⟩ i hi
    have hi2 : i = 0 ∨ i = 1 ∨ i = 2 ∨ i = 3 ∨ i = 4 ∨ i = 5 ∨ i = 6 ∨ i = 7 ∨ i = 8 ∨ i = 9 ∨ i = 10 ∨ i = 11 ∨ i = 12 ∨ i = 13 ∨ i = 14 ∨ i = 15 ∨ i = 16 ∨ i = 17 ∨ i = 18 ∨ i = 19 ∨ i = 20 ∨ i = 21 ∨ i = 22 ∨ i = 23 ∨ i = 24 ∨ i = 25 := by omega
    rcases hi2 with rfl | rfl | rfl | rfl | rfl | rfl | rfl | rfl | rfl | rfl | rfl | rfl | rfl | rfl | rfl | rfl | rfl | rfl | rfl | rfl | rfl | rfl | rfl | rfl | rfl | rfl <;> first | exact .inl (by decide +kernel) | exact .inr (by rfl)
def dayR (d0 d1 : UInt8) : Int := if d0 = 32 then twoV 48 d1 else twoV d0 d1
theorem twoV_range (a b : UInt8) : -1 ≤ twoV a b ∧ twoV a b ≤ 99 := by
  by_cases h : (48 ≤ a.toNat ∧ a.toNat ≤ 57) ∧ (48 ≤ b.toNat ∧ b.toNat ≤ 57)
  · rw [twoV_yes a b h.1 h.2]; omega
  · rw [twoV_no a b h]; omega
def RRb (A B H M : Int) (z21 z22 z23 z24 z25 : UInt8) (mo dv hh ii ss : Int) : Value :=
  if 0 ≤ A ∧ 0 ≤ B ∧ 0 ≤ H ∧ 0 ≤ M ∧ M ≤ 59 ∧ (z21 = 43 ∨ z21 = 45) ∧ ¬ [z21, z22, z23, z24, z25] = [45, 48, 48, 48, 48] ∧ Rt (100 * A + B) mo dv hh ii ss (if z21 = 45 then -(60 * H + M) else 60 * H + M) = true
  then .tuple #[stv (100 * A + B) mo dv hh ii ss (if z21 = 45 then -(60 * H + M) else 60 * H + M), .int .i64 0]
  else .tuple #[stv 0 0 0 0 0 0 0, .int .i64 9]
def RR26 (d0 d1 s2 m3 m4 m5 s6 y7 y8 y9 y10 s11 h12 h13 s14 i15 i16 s17 c18 c19 s20 z21 z22 z23 z24 z25 : UInt8) : Value :=
  if (s2 = 45 ∧ s6 = 45 ∧ s11 = 32 ∧ s14 = 58 ∧ s17 = 58 ∧ s20 = 32)
  then RRb (twoV y7 y8) (twoV y9 y10) (twoV z22 z23) (twoV z24 z25) z21 z22 z23 z24 z25 (idx mons [m3, m4, m5] : Nat) (dayR d0 d1) (twoV h12 h13) (twoV i15 i16) (twoV c18 c19)
  else .tuple #[stv 0 0 0 0 0 0 0, .int .i64 9]

/-- The world behind the pattern. -/
structure PW (w w2 : World) : Prop where
  rb : w2.heap[w.heap.size]? = some (.cells #[.int .i64 0, .int .i64 0, .int .i64 0, .int .i64 0, .int .i64 0, .int .i64 0, .int .i64 0] 23 (0, 0))
  pt : ∀ i, i < 26 → w2.cell? ⟨w.heap.size + 1, i, none⟩ = some (.int .u8 ((pat.getD i 0).toNat : Int))
  bel : Below w.heap.size w w2
  size : w2.heap.size = w.heap.size + 1 + 1
theorem PW.start (w : World) : PW w ((w.alloc (.cells #[.int .i64 0, .int .i64 0, .int .i64 0, .int .i64 0, .int .i64 0, .int .i64 0, .int .i64 0] 23)).alloc (.cells #[.int .u8 46, .int .u8 46, .int .u8 45, .int .u8 46, .int .u8 46, .int .u8 46, .int .u8 45, .int .u8 46, .int .u8 46, .int .u8 46, .int .u8 46, .int .u8 32, .int .u8 46, .int .u8 46, .int .u8 58, .int .u8 46, .int .u8 46, .int .u8 58, .int .u8 46, .int .u8 46, .int .u8 32, .int .u8 46, .int .u8 46, .int .u8 46, .int .u8 46, .int .u8 46] 5 (26, 27))) := by
  have s1 : ∀ o, (w.alloc o).heap.size = w.heap.size + 1 := fun o => by simp
  refine ⟨?_, ?_, ((Below.refl _ w).alloc (Nat.le_refl _) _).alloc (by rw [s1]; omega) _, by simp⟩
  · rw [Lib.alloc_old _ _ _ (by rw [s1]; omega), heap_alloc_new]
  · intro i hi
    have h := heap_alloc_new (w.alloc (.cells #[.int .i64 0, .int .i64 0, .int .i64 0, .int .i64 0, .int .i64 0, .int .i64 0, .int .i64 0] 23)) (.cells #[.int .u8 46, .int .u8 46, .int .u8 45, .int .u8 46, .int .u8 46, .int .u8 46, .int .u8 45, .int .u8 46, .int .u8 46, .int .u8 46, .int .u8 46, .int .u8 32, .int .u8 46, .int .u8 46, .int .u8 58, .int .u8 46, .int .u8 46, .int .u8 58, .int .u8 46, .int .u8 46, .int .u8 32, .int .u8 46, .int .u8 46, .int .u8 46, .int .u8 46, .int .u8 46] 5 (26, 27))
    rw [s1] at h
    simp only [World.cell?, h]
    have hC : (#[.int .u8 46, .int .u8 46, .int .u8 45, .int .u8 46, .int .u8 46, .int .u8 46, .int .u8 45, .int .u8 46, .int .u8 46, .int .u8 46, .int .u8 46, .int .u8 32, .int .u8 46, .int .u8 46, .int .u8 58, .int .u8 46, .int .u8 46, .int .u8 58, .int .u8 46, .int .u8 46, .int .u8 32, .int .u8 46, .int .u8 46, .int .u8 46, .int .u8 46, .int .u8 46] : Array Value) = (bvs pat).toArray := rfl
    simp only [hC]
    have hl : pat.length = 26 := rfl
    simp [bvs, List.getElem?_eq_getElem (show i < pat.length by omega)]
theorem QS.start {w w2 : World} (h : PW w w2) (q : Nat) : QS w ((w2.alloc (.cells #[.int .i64 0, .int .i64 0, .int .i64 0, .int .i64 0, .int .i64 0, .int .i64 0, .int .i64 0] 23)).drewN q) w2.heap.size w.heap.size 0 0 0 0 0 0 0 := by
  have hs := h.size
  refine ⟨heap_alloc_new w2 _, ?_, (h.bel.alloc (by omega) _).trans (Dr.below ⟨q, rfl⟩ _), Nat.le_refl _, by omega⟩
  show (w2.alloc (.cells #[.int .i64 0, .int .i64 0, .int .i64 0, .int .i64 0, .int .i64 0, .int .i64 0, .int .i64 0] 23)).heap[w.heap.size]? = _
  rw [Lib.alloc_old _ _ _ (by omega)]
  exact h.rb
theorem QS.start_cells {w w2 : World} (h : PW w w2) (q : Nat) : (((w2.alloc (.cells #[.int .i64 0, .int .i64 0, .int .i64 0, .int .i64 0, .int .i64 0, .int .i64 0, .int .i64 0] 23)).drewN q).cell? ⟨w2.heap.size, 0, none⟩ = some (.int .i64 0) ∧ ((w2.alloc (.cells #[.int .i64 0, .int .i64 0, .int .i64 0, .int .i64 0, .int .i64 0, .int .i64 0, .int .i64 0] 23)).drewN q).cell? ⟨w2.heap.size, 1, none⟩ = some (.int .i64 0) ∧ ((w2.alloc (.cells #[.int .i64 0, .int .i64 0, .int .i64 0, .int .i64 0, .int .i64 0, .int .i64 0, .int .i64 0] 23)).drewN q).cell? ⟨w2.heap.size, 2, none⟩ = some (.int .i64 0) ∧ ((w2.alloc (.cells #[.int .i64 0, .int .i64 0, .int .i64 0, .int .i64 0, .int .i64 0, .int .i64 0, .int .i64 0] 23)).drewN q).cell? ⟨w2.heap.size, 3, none⟩ = some (.int .i64 0) ∧ ((w2.alloc (.cells #[.int .i64 0, .int .i64 0, .int .i64 0, .int .i64 0, .int .i64 0, .int .i64 0, .int .i64 0] 23)).drewN q).cell? ⟨w2.heap.size, 4, none⟩ = some (.int .i64 0) ∧ ((w2.alloc (.cells #[.int .i64 0, .int .i64 0, .int .i64 0, .int .i64 0, .int .i64 0, .int .i64 0, .int .i64 0] 23)).drewN q).cell? ⟨w2.heap.size, 5, none⟩ = some (.int .i64 0) ∧ ((w2.alloc (.cells #[.int .i64 0, .int .i64 0, .int .i64 0, .int .i64 0, .int .i64 0, .int .i64 0, .int .i64 0] 23)).drewN q).cell? ⟨w2.heap.size, 6, none⟩ = some (.int .i64 0)) ∧ (((w2.alloc (.cells #[.int .i64 0, .int .i64 0, .int .i64 0, .int .i64 0, .int .i64 0, .int .i64 0, .int .i64 0] 23)).drewN q).frozen? ⟨w2.heap.size, 0, none⟩ = false ∧ ((w2.alloc (.cells #[.int .i64 0, .int .i64 0, .int .i64 0, .int .i64 0, .int .i64 0, .int .i64 0, .int .i64 0] 23)).drewN q).frozen? ⟨w2.heap.size, 1, none⟩ = false ∧ ((w2.alloc (.cells #[.int .i64 0, .int .i64 0, .int .i64 0, .int .i64 0, .int .i64 0, .int .i64 0, .int .i64 0] 23)).drewN q).frozen? ⟨w2.heap.size, 2, none⟩ = false ∧ ((w2.alloc (.cells #[.int .i64 0, .int .i64 0, .int .i64 0, .int .i64 0, .int .i64 0, .int .i64 0, .int .i64 0] 23)).drewN q).frozen? ⟨w2.heap.size, 3, none⟩ = false ∧ ((w2.alloc (.cells #[.int .i64 0, .int .i64 0, .int .i64 0, .int .i64 0, .int .i64 0, .int .i64 0, .int .i64 0] 23)).drewN q).frozen? ⟨w2.heap.size, 4, none⟩ = false ∧ ((w2.alloc (.cells #[.int .i64 0, .int .i64 0, .int .i64 0, .int .i64 0, .int .i64 0, .int .i64 0, .int .i64 0] 23)).drewN q).frozen? ⟨w2.heap.size, 5, none⟩ = false ∧ ((w2.alloc (.cells #[.int .i64 0, .int .i64 0, .int .i64 0, .int .i64 0, .int .i64 0, .int .i64 0, .int .i64 0] 23)).drewN q).frozen? ⟨w2.heap.size, 6, none⟩ = false) := rz7 (QS.start h q).tb
end Go.Proofs.Ytdeegjhnomdepaa.st

