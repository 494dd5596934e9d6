/- Walks over chapter 8: a stamp that is made, and the place of a result. -/
import Derived.Test.YtdeegjhnomdepaaSt1
import Derived.Test.YtdeegjhnomdepaaBase2
set_option linter.unusedVariables false
set_option linter.unusedSimpArgs false
namespace Go.Proofs.Ytdeegjhnomdepaa.st
open Go.RowKit Go.Proofs.Ytdeegjhnomdepaa.b

/-- The state of the reference's Parse: the stamp that is made, the result's place. -/
structure QS (w0 w : World) (k r : Nat) (y m d h i s z : Int) : Prop where
  tb : w.heap[k]? = some (.cells #[.int .i64 y, .int .i64 m, .int .i64 d, .int .i64 h, .int .i64 i, .int .i64 s, .int .i64 z] 23 (0, 0))
  rb : w.heap[r]? = some (.cells #[.int .i64 0, .int .i64 0, .int .i64 0, .int .i64 0, .int .i64 0, .int .i64 0, .int .i64 0] 23 (0, 0))
  bel : Below w0.heap.size w0 w
  o1 : w0.heap.size ≤ r
  o2 : r < k
theorem rz7 {w : World} {r : Nat} {t : TypeId} (hb : w.heap[r]? = some (.cells #[.int .i64 0, .int .i64 0, .int .i64 0, .int .i64 0, .int .i64 0, .int .i64 0, .int .i64 0] t (0, 0))) : (w.cell? ⟨r, 0, none⟩ = some (.int .i64 0) ∧ w.cell? ⟨r, 1, none⟩ = some (.int .i64 0) ∧ w.cell? ⟨r, 2, none⟩ = some (.int .i64 0) ∧ w.cell? ⟨r, 3, none⟩ = some (.int .i64 0) ∧ w.cell? ⟨r, 4, none⟩ = some (.int .i64 0) ∧ w.cell? ⟨r, 5, none⟩ = some (.int .i64 0) ∧ w.cell? ⟨r, 6, none⟩ = some (.int .i64 0)) ∧ (w.frozen? ⟨r, 0, none⟩ = false ∧ w.frozen? ⟨r, 1, none⟩ = false ∧ w.frozen? ⟨r, 2, none⟩ = false ∧ w.frozen? ⟨r, 3, none⟩ = false ∧ w.frozen? ⟨r, 4, none⟩ = false ∧ w.frozen? ⟨r, 5, none⟩ = false ∧ w.frozen? ⟨r, 6, none⟩ = false) := by
  simp [World.cell?, World.frozen?, hb]
theorem res7 {w0 w : World} {r : Nat} {t : TypeId} (hb : w.heap[r]? = some (.cells #[.int .i64 0, .int .i64 0, .int .i64 0, .int .i64 0, .int .i64 0, .int .i64 0, .int .i64 0] t (0, 0))) (bel : Below w0.heap.size w0 w) (o1 : w0.heap.size ≤ r) (a0 a1 a2 a3 a4 a5 a6 : Value) :
    (((((((w.setCell ⟨r, 0, none⟩ a0).setCell ⟨r, 1, none⟩ a1).setCell ⟨r, 2, none⟩ a2).setCell ⟨r, 3, none⟩ a3).setCell ⟨r, 4, none⟩ a4).setCell ⟨r, 5, none⟩ a5).setCell ⟨r, 6, none⟩ a6).heap[r]? = some (.cells #[a0, a1, a2, a3, a4, a5, a6] t (0, 0)) ∧ Below w0.heap.size w0 (((((((w.setCell ⟨r, 0, none⟩ a0).setCell ⟨r, 1, none⟩ a1).setCell ⟨r, 2, none⟩ a2).setCell ⟨r, 3, none⟩ a3).setCell ⟨r, 4, none⟩ a4).setCell ⟨r, 5, none⟩ a5).setCell ⟨r, 6, none⟩ a6) := by
  refine ⟨?_, ?_⟩
  · simp [World.setCell, Array.getElem?_modify, hb]
  · exact (((((((bel.setCell (p := ⟨r, 0, none⟩) o1 a0).setCell (p := ⟨r, 1, none⟩) o1 a1).setCell (p := ⟨r, 2, none⟩) o1 a2).setCell (p := ⟨r, 3, none⟩) o1 a3).setCell (p := ⟨r, 4, none⟩) o1 a4).setCell (p := ⟨r, 5, none⟩) o1 a5).setCell (p := ⟨r, 6, none⟩) o1 a6)
section
variable {w0 w w' : World} {k r : Nat} {y m d h i s z : Int}
theorem QS.lt (p : QS w0 w k r y m d h i s z) : k < w.heap.size := (Array.getElem?_eq_some_iff.1 p.tb).1
theorem QS.keep (p : QS w0 w k r y m d h i s z) (hB : Below w.heap.size w w') : QS w0 w' k r y m d h i s z := by
  have o1 := p.o1
  have o2 := p.o2
  have l := p.lt
  exact ⟨(hB.block _ l).trans p.tb, (hB.block _ (by omega)).trans p.rb, p.bel.trans (hB.mono (by omega)), o1, o2⟩
theorem QS.frz (p : QS w0 w k r y m d h i s z) (j : Nat) : w.frozen? ⟨k, j, none⟩ = false := by simp [World.frozen?, p.tb]
theorem QS.rz (p : QS w0 w k r y m d h i s z) : (w.cell? ⟨r, 0, none⟩ = some (.int .i64 0) ∧ w.cell? ⟨r, 1, none⟩ = some (.int .i64 0) ∧ w.cell? ⟨r, 2, none⟩ = some (.int .i64 0) ∧ w.cell? ⟨r, 3, none⟩ = some (.int .i64 0) ∧ w.cell? ⟨r, 4, none⟩ = some (.int .i64 0) ∧ w.cell? ⟨r, 5, none⟩ = some (.int .i64 0) ∧ w.cell? ⟨r, 6, none⟩ = some (.int .i64 0)) ∧ (w.frozen? ⟨r, 0, none⟩ = false ∧ w.frozen? ⟨r, 1, none⟩ = false ∧ w.frozen? ⟨r, 2, none⟩ = false ∧ w.frozen? ⟨r, 3, none⟩ = false ∧ w.frozen? ⟨r, 4, none⟩ = false ∧ w.frozen? ⟨r, 5, none⟩ = false ∧ w.frozen? ⟨r, 6, none⟩ = false) := by
  simp [World.cell?, World.frozen?, p.rb]
theorem QS.cs (p : QS w0 w k r y m d h i s z) : w.cell? ⟨k, 0, none⟩ = some (.int .i64 y) ∧ w.cell? ⟨k, 1, none⟩ = some (.int .i64 m) ∧ w.cell? ⟨k, 2, none⟩ = some (.int .i64 d) ∧ w.cell? ⟨k, 3, none⟩ = some (.int .i64 h) ∧ w.cell? ⟨k, 4, none⟩ = some (.int .i64 i) ∧ w.cell? ⟨k, 5, none⟩ = some (.int .i64 s) ∧ w.cell? ⟨k, 6, none⟩ = some (.int .i64 z) := by
  simp [World.cell?, p.tb]
theorem QS.set0 (p : QS w0 w k r y m d h i s z) (v : Int) : QS w0 (w.setCell ⟨k, 0, none⟩ (.int .i64 v)) k r v m d h i s z := by
  have o1 := p.o1
  have o2 := p.o2
  refine ⟨?_, ?_, bgrow p.bel (gset _ _ _ _) (by omega) p.bel.size, o1, o2⟩
  · simp [World.setCell, Array.getElem?_modify, p.tb]
  · rw [Below.heap_setCell _ _ _ _ (by simp; omega)]; exact p.rb
theorem QS.set1 (p : QS w0 w k r y m d h i s z) (v : Int) : QS w0 (w.setCell ⟨k, 1, none⟩ (.int .i64 v)) k r y v d h i s z := by
  have o1 := p.o1
  have o2 := p.o2
  refine ⟨?_, ?_, bgrow p.bel (gset _ _ _ _) (by omega) p.bel.size, o1, o2⟩
  · simp [World.setCell, Array.getElem?_modify, p.tb]
  · rw [Below.heap_setCell _ _ _ _ (by simp; omega)]; exact p.rb
theorem QS.set2 (p : QS w0 w k r y m d h i s z) (v : Int) : QS w0 (w.setCell ⟨k, 2, none⟩ (.int .i64 v)) k r y m v h i s z := by
  have o1 := p.o1
  have o2 := p.o2
  refine ⟨?_, ?_, bgrow p.bel (gset _ _ _ _) (by omega) p.bel.size, o1, o2⟩
  · simp [World.setCell, Array.getElem?_modify, p.tb]
  · rw [Below.heap_setCell _ _ _ _ (by simp; omega)]; exact p.rb
theorem QS.set3 (p : QS w0 w k r y m d h i s z) (v : Int) : QS w0 (w.setCell ⟨k, 3, none⟩ (.int .i64 v)) k r y m d v i s z := by
  have o1 := p.o1
  have o2 := p.o2
  refine ⟨?_, ?_, bgrow p.bel (gset _ _ _ _) (by omega) p.bel.size, o1, o2⟩
  · simp [World.setCell, Array.getElem?_modify, p.tb]
  · rw [Below.heap_setCell _ _ _ _ (by simp; omega)]; exact p.rb
theorem QS.set4 (p : QS w0 w k r y m d h i s z) (v : Int) : QS w0 (w.setCell ⟨k, 4, none⟩ (.int .i64 v)) k r y m d h v s z := by
  have o1 := p.o1
  have o2 := p.o2
  refine ⟨?_, ?_, bgrow p.bel (gset _ _ _ _) (by omega) p.bel.size, o1, o2⟩
  · simp [World.setCell, Array.getElem?_modify, p.tb]
  · rw [Below.heap_setCell _ _ _ _ (by simp; omega)]; exact p.rb
theorem QS.set5 (p : QS w0 w k r y m d h i s z) (v : Int) : QS w0 (w.setCell ⟨k, 5, none⟩ (.int .i64 v)) k r y m d h i v z := by
  have o1 := p.o1
  have o2 := p.o2
  refine ⟨?_, ?_, bgrow p.bel (gset _ _ _ _) (by omega) p.bel.size, o1, o2⟩
  · simp [World.setCell, Array.getElem?_modify, p.tb]
  · rw [Below.heap_setCell _ _ _ _ (by simp; omega)]; exact p.rb
theorem QS.set6 (p : QS w0 w k r y m d h i s z) (v : Int) : QS w0 (w.setCell ⟨k, 6, none⟩ (.int .i64 v)) k r y m d h i s v := by
  have o1 := p.o1
  have o2 := p.o2
  refine ⟨?_, ?_, bgrow p.bel (gset _ _ _ _) (by omega) p.bel.size, o1, o2⟩
  · simp [World.setCell, Array.getElem?_modify, p.tb]
  · rw [Below.heap_setCell _ _ _ _ (by simp; omega)]; exact p.rb
theorem QS.res (p : QS w0 w k r y m d h i s z) (a0 a1 a2 a3 a4 a5 a6 : Value) :
    (((((((w.setCell ⟨r, 0, none⟩ a0).setCell ⟨r, 1, none⟩ a1).setCell ⟨r, 2, none⟩ a2).setCell ⟨r, 3, none⟩ a3).setCell ⟨r, 4, none⟩ a4).setCell ⟨r, 5, none⟩ a5).setCell ⟨r, 6, none⟩ a6).heap[r]? = some (.cells #[a0, a1, a2, a3, a4, a5, a6] 23 (0, 0)) ∧ Below w0.heap.size w0 (((((((w.setCell ⟨r, 0, none⟩ a0).setCell ⟨r, 1, none⟩ a1).setCell ⟨r, 2, none⟩ a2).setCell ⟨r, 3, none⟩ a3).setCell ⟨r, 4, none⟩ a4).setCell ⟨r, 5, none⟩ a5).setCell ⟨r, 6, none⟩ a6) := by
  have o1 := p.o1
  refine ⟨?_, ?_⟩
  · simp [World.setCell, Array.getElem?_modify, p.rb]
  · exact (((((((p.bel.setCell (p := ⟨r, 0, none⟩) o1 a0).setCell (p := ⟨r, 1, none⟩) o1 a1).setCell (p := ⟨r, 2, none⟩) o1 a2).setCell (p := ⟨r, 3, none⟩) o1 a3).setCell (p := ⟨r, 4, none⟩) o1 a4).setCell (p := ⟨r, 5, none⟩) o1 a5).setCell (p := ⟨r, 6, none⟩) o1 a6)
theorem QS.two (w : World) (y m d h i s z : Int) : QS w ((w.alloc (.cells #[.int .i64 0, .int .i64 0, .int .i64 0, .int .i64 0, .int .i64 0, .int .i64 0, .int .i64 0] 23)).alloc (.cells #[.int .i64 y, .int .i64 m, .int .i64 d, .int .i64 h, .int .i64 i, .int .i64 s, .int .i64 z] 23)) (w.heap.size + 1) w.heap.size y m d h i s z := by
  have s1 : ∀ o, (w.alloc o).heap.size = w.heap.size + 1 := fun o => by simp
  refine ⟨?_, ?_, ((Below.refl _ w).alloc (Nat.le_refl _) _).alloc (by rw [s1]; omega) _, Nat.le_refl _, by omega⟩
  · rw [← s1 (.cells #[.int .i64 0, .int .i64 0, .int .i64 0, .int .i64 0, .int .i64 0, .int .i64 0, .int .i64 0] 23), heap_alloc_new]
  · rw [Lib.alloc_old _ _ _ (by rw [s1]; omega), heap_alloc_new]
end
end Go.Proofs.Ytdeegjhnomdepaa.st

