/- Walks over chapter 8: stamp.Parse. -/
import Derived.Test.YtdeegjhnomdepaaSt4
set_option linter.unusedVariables false
set_option linter.unusedSimpArgs false
namespace Go.Proofs.Ytdeegjhnomdepaa.st
open Go.RowKit Go.Proofs.Ytdeegjhnomdepaa.b

def sts (l : List Int) : Array Value := (l.map fun i => Value.int .i64 i).toArray
/-- The state of Parse: the reader, the stamp that is made, the result's place. -/
structure PS (w0 w : World) (g k r : Nat) (xs : List UInt8) (bad : Bool) (y m d h i s z : Int) : Prop where
  rd : Rds w g xs bad
  tb : w.heap[k]? = some (.cells #[.int .i64 y, .int .i64 m, .int .i64 d, .int .i64 h, .int .i64 i, .int .i64 s, .int .i64 z] 23 (0, 0))
  rb : w.heap[r]? = some (.cells #[.int .i64 0, .int .i64 0, .int .i64 0, .int .i64 0, .int .i64 0, .int .i64 0, .int .i64 0] 23 (0, 0))
  bel : Below w0.heap.size w0 w
  o1 : w0.heap.size ≤ r
  o2 : r < g
  o3 : g < k
section
variable {w0 w w' : World} {g k r : Nat} {xs ys : List UInt8} {bad bad' : Bool} {y m d h i s z : Int}
theorem PS.lt (p : PS w0 w g k r xs bad y m d h i s z) : k < w.heap.size := (Array.getElem?_eq_some_iff.1 p.tb).1
theorem PS.call (p : PS w0 w g k r xs bad y m d h i s z) (hR : Rds w' g ys bad') (hG : w.grownBy w' (some g)) : PS w0 w' g k r ys bad' y m d h i s z := by
  have o1 := p.o1
  have o2 := p.o2
  have o3 := p.o3
  have l := p.lt
  exact ⟨hR, (gblk hG l (by omega)).trans p.tb, (gblk hG (by omega) (by omega)).trans p.rb, bgrow p.bel hG (by omega) (by omega), o1, o2, o3⟩
theorem PS.keep (p : PS w0 w g k r xs bad y m d h i s z) (hB : Below w.heap.size w w') : PS w0 w' g k r xs bad y m d h i s z := by
  have o1 := p.o1
  have o2 := p.o2
  have o3 := p.o3
  have l := p.lt
  exact ⟨p.rd.keep hB, (hB.block _ l).trans p.tb, (hB.block _ (by omega)).trans p.rb, p.bel.trans (hB.mono (by omega)), o1, o2, o3⟩
theorem PS.frz (p : PS w0 w g k r xs bad y m d h i s z) (j : Nat) : w.frozen? ⟨k, j, none⟩ = false := by simp [World.frozen?, p.tb]
theorem PS.c0 (p : PS w0 w g k r xs bad y m d h i s z) : w.cell? ⟨k, 0, none⟩ = some (.int .i64 y) := by simp [World.cell?, p.tb]
theorem PS.c1 (p : PS w0 w g k r xs bad y m d h i s z) : w.cell? ⟨k, 1, none⟩ = some (.int .i64 m) := by simp [World.cell?, p.tb]
theorem PS.c2 (p : PS w0 w g k r xs bad y m d h i s z) : w.cell? ⟨k, 2, none⟩ = some (.int .i64 d) := by simp [World.cell?, p.tb]
theorem PS.c3 (p : PS w0 w g k r xs bad y m d h i s z) : w.cell? ⟨k, 3, none⟩ = some (.int .i64 h) := by simp [World.cell?, p.tb]
theorem PS.c4 (p : PS w0 w g k r xs bad y m d h i s z) : w.cell? ⟨k, 4, none⟩ = some (.int .i64 i) := by simp [World.cell?, p.tb]
theorem PS.c5 (p : PS w0 w g k r xs bad y m d h i s z) : w.cell? ⟨k, 5, none⟩ = some (.int .i64 s) := by simp [World.cell?, p.tb]
theorem PS.c6 (p : PS w0 w g k r xs bad y m d h i s z) : w.cell? ⟨k, 6, none⟩ = some (.int .i64 z) := by simp [World.cell?, p.tb]
theorem PS.set0 (p : PS w0 w g k r xs bad y m d h i s z) (v : Int) : PS w0 (w.setCell ⟨k, 0, none⟩ (.int .i64 v)) g k r xs bad v m d h i s z := by
  have o1 := p.o1
  have o2 := p.o2
  have o3 := p.o3
  refine ⟨?_, ?_, ?_, bgrow p.bel (gset _ _ _ _) (by omega) p.bel.size, o1, o2, o3⟩
  · show (w.setCell ⟨k, 0, none⟩ (.int .i64 v)).heap[g]? = _
    rw [Below.heap_setCell _ _ _ _ (by simp; omega)]; exact p.rd
  · simp [World.setCell, Array.getElem?_modify, p.tb]
  · rw [Below.heap_setCell _ _ _ _ (by simp; omega)]; exact p.rb
theorem PS.set1 (p : PS w0 w g k r xs bad y m d h i s z) (v : Int) : PS w0 (w.setCell ⟨k, 1, none⟩ (.int .i64 v)) g k r xs bad y v d h i s z := by
  have o1 := p.o1
  have o2 := p.o2
  have o3 := p.o3
  refine ⟨?_, ?_, ?_, bgrow p.bel (gset _ _ _ _) (by omega) p.bel.size, o1, o2, o3⟩
  · show (w.setCell ⟨k, 1, none⟩ (.int .i64 v)).heap[g]? = _
    rw [Below.heap_setCell _ _ _ _ (by simp; omega)]; exact p.rd
  · simp [World.setCell, Array.getElem?_modify, p.tb]
  · rw [Below.heap_setCell _ _ _ _ (by simp; omega)]; exact p.rb
theorem PS.set2 (p : PS w0 w g k r xs bad y m d h i s z) (v : Int) : PS w0 (w.setCell ⟨k, 2, none⟩ (.int .i64 v)) g k r xs bad y m v h i s z := by
  have o1 := p.o1
  have o2 := p.o2
  have o3 := p.o3
  refine ⟨?_, ?_, ?_, bgrow p.bel (gset _ _ _ _) (by omega) p.bel.size, o1, o2, o3⟩
  · show (w.setCell ⟨k, 2, none⟩ (.int .i64 v)).heap[g]? = _
    rw [Below.heap_setCell _ _ _ _ (by simp; omega)]; exact p.rd
  · simp [World.setCell, Array.getElem?_modify, p.tb]
  · rw [Below.heap_setCell _ _ _ _ (by simp; omega)]; exact p.rb
theorem PS.set3 (p : PS w0 w g k r xs bad y m d h i s z) (v : Int) : PS w0 (w.setCell ⟨k, 3, none⟩ (.int .i64 v)) g k r xs bad y m d v i s z := by
  have o1 := p.o1
  have o2 := p.o2
  have o3 := p.o3
  refine ⟨?_, ?_, ?_, bgrow p.bel (gset _ _ _ _) (by omega) p.bel.size, o1, o2, o3⟩
  · show (w.setCell ⟨k, 3, none⟩ (.int .i64 v)).heap[g]? = _
    rw [Below.heap_setCell _ _ _ _ (by simp; omega)]; exact p.rd
  · simp [World.setCell, Array.getElem?_modify, p.tb]
  · rw [Below.heap_setCell _ _ _ _ (by simp; omega)]; exact p.rb
theorem PS.set4 (p : PS w0 w g k r xs bad y m d h i s z) (v : Int) : PS w0 (w.setCell ⟨k, 4, none⟩ (.int .i64 v)) g k r xs bad y m d h v s z := by
  have o1 := p.o1
  have o2 := p.o2
  have o3 := p.o3
  refine ⟨?_, ?_, ?_, bgrow p.bel (gset _ _ _ _) (by omega) p.bel.size, o1, o2, o3⟩
  · show (w.setCell ⟨k, 4, none⟩ (.int .i64 v)).heap[g]? = _
    rw [Below.heap_setCell _ _ _ _ (by simp; omega)]; exact p.rd
  · simp [World.setCell, Array.getElem?_modify, p.tb]
  · rw [Below.heap_setCell _ _ _ _ (by simp; omega)]; exact p.rb
theorem PS.set5 (p : PS w0 w g k r xs bad y m d h i s z) (v : Int) : PS w0 (w.setCell ⟨k, 5, none⟩ (.int .i64 v)) g k r xs bad y m d h i v z := by
  have o1 := p.o1
  have o2 := p.o2
  have o3 := p.o3
  refine ⟨?_, ?_, ?_, bgrow p.bel (gset _ _ _ _) (by omega) p.bel.size, o1, o2, o3⟩
  · show (w.setCell ⟨k, 5, none⟩ (.int .i64 v)).heap[g]? = _
    rw [Below.heap_setCell _ _ _ _ (by simp; omega)]; exact p.rd
  · simp [World.setCell, Array.getElem?_modify, p.tb]
  · rw [Below.heap_setCell _ _ _ _ (by simp; omega)]; exact p.rb
theorem PS.set6 (p : PS w0 w g k r xs bad y m d h i s z) (v : Int) : PS w0 (w.setCell ⟨k, 6, none⟩ (.int .i64 v)) g k r xs bad y m d h i s v := by
  have o1 := p.o1
  have o2 := p.o2
  have o3 := p.o3
  refine ⟨?_, ?_, ?_, bgrow p.bel (gset _ _ _ _) (by omega) p.bel.size, o1, o2, o3⟩
  · show (w.setCell ⟨k, 6, none⟩ (.int .i64 v)).heap[g]? = _
    rw [Below.heap_setCell _ _ _ _ (by simp; omega)]; exact p.rd
  · simp [World.setCell, Array.getElem?_modify, p.tb]
  · rw [Below.heap_setCell _ _ _ _ (by simp; omega)]; exact p.rb
theorem PS.rz (p : PS w0 w g k r xs bad y m d h i s z) : (w.cell? ⟨r, 0, none⟩ = some (.int .i64 0) ∧ w.cell? ⟨r, 1, none⟩ = some (.int .i64 0) ∧ w.cell? ⟨r, 2, none⟩ = some (.int .i64 0) ∧ w.cell? ⟨r, 3, none⟩ = some (.int .i64 0) ∧ w.cell? ⟨r, 4, none⟩ = some (.int .i64 0) ∧ w.cell? ⟨r, 5, none⟩ = some (.int .i64 0) ∧ w.cell? ⟨r, 6, none⟩ = some (.int .i64 0)) ∧ (w.frozen? ⟨r, 0, none⟩ = false ∧ w.frozen? ⟨r, 1, none⟩ = false ∧ w.frozen? ⟨r, 2, none⟩ = false ∧ w.frozen? ⟨r, 3, none⟩ = false ∧ w.frozen? ⟨r, 4, none⟩ = false ∧ w.frozen? ⟨r, 5, none⟩ = false ∧ w.frozen? ⟨r, 6, none⟩ = false) := by
  simp [World.cell?, World.frozen?, p.rb]
theorem PS.res (p : PS w0 w g k r xs bad y m d h i s z) (a0 a1 a2 a3 a4 a5 a6 : Value) :
    (((((((w.setCell ⟨r, 0, none⟩ a0).setCell ⟨r, 1, none⟩ a1).setCell ⟨r, 2, none⟩ a2).setCell ⟨r, 3, none⟩ a3).setCell ⟨r, 4, none⟩ a4).setCell ⟨r, 5, none⟩ a5).setCell ⟨r, 6, none⟩ a6).heap[r]? = some (.cells #[a0, a1, a2, a3, a4, a5, a6] 23 (0, 0)) ∧
    Below w0.heap.size w0 (((((((w.setCell ⟨r, 0, none⟩ a0).setCell ⟨r, 1, none⟩ a1).setCell ⟨r, 2, none⟩ a2).setCell ⟨r, 3, none⟩ a3).setCell ⟨r, 4, none⟩ a4).setCell ⟨r, 5, none⟩ a5).setCell ⟨r, 6, none⟩ a6) := by
  have o1 := p.o1
  refine ⟨?_, ?_⟩
  · simp [World.setCell, Array.getElem?_modify, p.rb]
  · exact ((((((p.bel.setCell (p := ⟨r, 0, none⟩) o1 a0).setCell (p := ⟨r, 1, none⟩) o1 a1).setCell (p := ⟨r, 2, none⟩) o1 a2).setCell (p := ⟨r, 3, none⟩) o1 a3).setCell (p := ⟨r, 4, none⟩) o1 a4).setCell (p := ⟨r, 5, none⟩) o1 a5).setCell (p := ⟨r, 6, none⟩) o1 a6
end

theorem PS.start (w : World) (xs : List UInt8) : PS w (((w.alloc (.cells #[.int .i64 0, .int .i64 0, .int .i64 0, .int .i64 0, .int .i64 0, .int .i64 0, .int .i64 0] 23)).alloc (.cells #[.string ⟨xs.toArray⟩, .bool false] 38)).alloc (.cells #[.int .i64 0, .int .i64 0, .int .i64 0, .int .i64 0, .int .i64 0, .int .i64 0, .int .i64 0] 23)) (w.heap.size + 1) (w.heap.size + 1 + 1) w.heap.size xs false 0 0 0 0 0 0 0 := by
  have s1 : ∀ o, (w.alloc o).heap.size = w.heap.size + 1 := fun o => by simp
  have s2 : ∀ o q, ((w.alloc o).alloc q).heap.size = w.heap.size + 1 + 1 := fun o q => by simp
  refine ⟨?_, ?_, ?_, (((Below.refl _ w).alloc (Nat.le_refl _) _).alloc (by rw [s1]; omega) _).alloc (by rw [s2]; omega) _, Nat.le_refl _, by omega, by omega⟩
  · unfold Rds
    rw [Lib.alloc_old _ _ _ (by rw [s2]; omega)]
    rw [← s1 (.cells #[.int .i64 0, .int .i64 0, .int .i64 0, .int .i64 0, .int .i64 0, .int .i64 0, .int .i64 0] 23), heap_alloc_new]
    rfl
  · rw [← s2 (.cells #[.int .i64 0, .int .i64 0, .int .i64 0, .int .i64 0, .int .i64 0, .int .i64 0, .int .i64 0] 23) (.cells #[.string ⟨xs.toArray⟩, .bool false] 38), heap_alloc_new]
  · rw [Lib.alloc_old _ _ _ (by rw [s2]; omega), Lib.alloc_old _ _ _ (by rw [s1]; omega), heap_alloc_new]
def dayB (d0 d1 : UInt8) : Option Nat := if d0 = 32 then digs [d1] 0 else digs [d0, d1] 0
def badOf (d0 d1 s2 m3 m4 m5 s6 y7 y8 y9 y10 s11 h12 h13 s14 i15 i16 s17 c18 c19 s20 z21 z22 z23 z24 z25 : UInt8) : Bool := ((s20 != 32 || ((s17 != 58 || ((s14 != 58 || ((s11 != 32 || ((s6 != 45 || ((s2 != 45 || (false || (dayB d0 d1).isNone)) || idx mons [m3, m4, m5] == 0)) || (digs [y7, y8, y9, y10] 0).isNone)) || (digs [h12, h13] 0).isNone)) || (digs [i15, i16] 0).isNone)) || (digs [c18, c19] 0).isNone)) || zonB z21 z22 z23 z24 z25)
def PR26 (d0 d1 s2 m3 m4 m5 s6 y7 y8 y9 y10 s11 h12 h13 s14 i15 i16 s17 c18 c19 s20 z21 z22 z23 z24 z25 : UInt8) : Value := if (badOf d0 d1 s2 m3 m4 m5 s6 y7 y8 y9 y10 s11 h12 h13 s14 i15 i16 s17 c18 c19 s20 z21 z22 z23 z24 z25 || !Rt ((numV [y7, y8, y9, y10] : Nat) : Int) ((idx mons [m3, m4, m5] : Nat) : Int) (((dayB d0 d1).getD 0 : Nat) : Int) ((numV [h12, h13] : Nat) : Int) ((numV [i15, i16] : Nat) : Int) ((numV [c18, c19] : Nat) : Int) (zonV z21 z22 z23 z24 z25)) = true then .tuple #[stv 0 0 0 0 0 0 0, .int .i64 9] else .tuple #[stv ((numV [y7, y8, y9, y10] : Nat) : Int) ((idx mons [m3, m4, m5] : Nat) : Int) (((dayB d0 d1).getD 0 : Nat) : Int) ((numV [h12, h13] : Nat) : Int) ((numV [i15, i16] : Nat) : Int) ((numV [c18, c19] : Nat) : Int) (zonV z21 z22 z23 z24 z25), .int .i64 0]

set_option maxHeartbeats 8000000 in
set_option maxRecDepth 100000 in
theorem ParseA (d0 d1 s2 m3 m4 m5 s6 y7 y8 y9 y10 s11 h12 h13 s14 i15 i16 s17 c18 c19 s20 z21 z22 z23 z24 z25 : UInt8) (w : World) (hd : d0 = 32) :
    Calls Try.prog 7 #[str [d0, d1, s2, m3, m4, m5, s6, y7, y8, y9, y10, s11, h12, h13, s14, i15, i16, s17, c18, c19, s20, z21, z22, z23, z24, z25]] w fun e w' => e = .returned (PR26 d0 d1 s2 m3 m4 m5 s6 y7 y8 y9 y10 s11 h12 h13 s14 i15 i16 s17 c18 c19 s20 z21 z22 z23 z24 z25) ∧ Below w.heap.size w w' := by
  subst hd
  unfold str
  have P0 := K.mk (PS.start w [32, d1, s2, m3, m4, m5, s6, y7, y8, y9, y10, s11, h12, h13, s14, i15, i16, s17, c18, c19, s20, z21, z22, z23, z24, z25])
  go_enter Try.func7, Try.ntmps7
  go_wp2_with fail
  generalize World.alloc (World.alloc (World.alloc _ _) _) _ = w0 at P0 ⊢
  refine (take_calls _ [32, d1, s2, m3, m4, m5, s6, y7, y8, y9, y10, s11, h12, h13, s14, i15, i16, s17, c18, c19, s20, z21, z22, z23, z24, z25] false 1 _ P0.out.rd (by simp)).mono ?_
  rintro e w1 ⟨rfl, hw⟩
  have P1 := K.mk (P0.out.call (P0.out.rd.take [d1, s2, m3, m4, m5, s6, y7, y8, y9, y10, s11, h12, h13, s14, i15, i16, s17, c18, c19, s20, z21, z22, z23, z24, z25]) (gset _ _ _ _))
  rw [show w0.setCell ⟨w.heap.size + 1, 0, none⟩ (str [d1, s2, m3, m4, m5, s6, y7, y8, y9, y10, s11, h12, h13, s14, i15, i16, s17, c18, c19, s20, z21, z22, z23, z24, z25]) = w1 from hw.symm] at P1
  clear hw P0
  go_wp2_with fail
  refine (number_calls _ [d1, s2, m3, m4, m5, s6, y7, y8, y9, y10, s11, h12, h13, s14, i15, i16, s17, c18, c19, s20, z21, z22, z23, z24, z25] _ 1 _ P1.out.rd (by simp) (by omega)).mono ?_
  simp only [List.drop_succ_cons, List.drop_zero, List.take_succ_cons, List.take_zero]
  rintro e w2 ⟨rfl, hR, hG⟩
  have P2 := K.mk (P1.out.call hR hG)
  clear hR hG P1
  have c2 := P2.out.c2
  have f2 := P2.out.frz 2
  go_wp2_with fail
  have P3 := K.mk (P2.out.set2 (numV [d1] : Nat))
  clear c2 f2 P2
  generalize World.setCell _ _ _ = w3 at P3 ⊢
  have hday : dayB 32 d1 = digs [d1] 0 := by simp [dayB]
  rw [show (digs [d1] 0).isNone = (dayB 32 d1).isNone by rw [hday], show numV [d1] = (dayB 32 d1).getD 0 by rw [hday]; rfl] at P3
  clear hday
  refine (sign_calls _ 45 s2 [m3, m4, m5, s6, y7, y8, y9, y10, s11, h12, h13, s14, i15, i16, s17, c18, c19, s20, z21, z22, z23, z24, z25] _ _ P3.out.rd).mono ?_
  rintro e w4 ⟨rfl, hR, hG⟩
  have P4 := K.mk (P3.out.call hR hG)
  clear hR hG P3
  go_wp2_with fail
  refine (month_calls _ [m3, m4, m5, s6, y7, y8, y9, y10, s11, h12, h13, s14, i15, i16, s17, c18, c19, s20, z21, z22, z23, z24, z25] _ _ P4.out.rd (by simp)).mono ?_
  try simp only [List.drop_succ_cons, List.drop_zero, List.take_succ_cons, List.take_zero]
  rintro e w5 ⟨rfl, hR, hG⟩
  have P5 := K.mk (P4.out.call hR hG)
  clear hR hG P4
  have c5 := P5.out.c1
  have f5 := P5.out.frz 1
  go_wp2_with fail
  have P6 := K.mk (P5.out.set1 ((idx mons [m3, m4, m5] : Nat) : Int))
  clear c5 f5 P5
  try generalize World.setCell _ _ _ = w6 at P6 ⊢
  refine (sign_calls _ 45 s6 [y7, y8, y9, y10, s11, h12, h13, s14, i15, i16, s17, c18, c19, s20, z21, z22, z23, z24, z25] _ _ P6.out.rd).mono ?_
  rintro e w7 ⟨rfl, hR, hG⟩
  have P7 := K.mk (P6.out.call hR hG)
  clear hR hG P6
  go_wp2_with fail
  refine (number_calls _ [y7, y8, y9, y10, s11, h12, h13, s14, i15, i16, s17, c18, c19, s20, z21, z22, z23, z24, z25] _ 4 _ P7.out.rd (by simp) (by omega)).mono ?_
  try simp only [List.drop_succ_cons, List.drop_zero, List.take_succ_cons, List.take_zero]
  rintro e w8 ⟨rfl, hR, hG⟩
  have P8 := K.mk (P7.out.call hR hG)
  clear hR hG P7
  have c8 := P8.out.c0
  have f8 := P8.out.frz 0
  go_wp2_with fail
  have P9 := K.mk (P8.out.set0 ((numV [y7, y8, y9, y10] : Nat) : Int))
  clear c8 f8 P8
  try generalize World.setCell _ _ _ = w9 at P9 ⊢
  refine (sign_calls _ 32 s11 [h12, h13, s14, i15, i16, s17, c18, c19, s20, z21, z22, z23, z24, z25] _ _ P9.out.rd).mono ?_
  rintro e w10 ⟨rfl, hR, hG⟩
  have P10 := K.mk (P9.out.call hR hG)
  clear hR hG P9
  go_wp2_with fail
  refine (number_calls _ [h12, h13, s14, i15, i16, s17, c18, c19, s20, z21, z22, z23, z24, z25] _ 2 _ P10.out.rd (by simp) (by omega)).mono ?_
  try simp only [List.drop_succ_cons, List.drop_zero, List.take_succ_cons, List.take_zero]
  rintro e w11 ⟨rfl, hR, hG⟩
  have P11 := K.mk (P10.out.call hR hG)
  clear hR hG P10
  have c11 := P11.out.c3
  have f11 := P11.out.frz 3
  go_wp2_with fail
  have P12 := K.mk (P11.out.set3 ((numV [h12, h13] : Nat) : Int))
  clear c11 f11 P11
  try generalize World.setCell _ _ _ = w12 at P12 ⊢
  refine (sign_calls _ 58 s14 [i15, i16, s17, c18, c19, s20, z21, z22, z23, z24, z25] _ _ P12.out.rd).mono ?_
  rintro e w13 ⟨rfl, hR, hG⟩
  have P13 := K.mk (P12.out.call hR hG)
  clear hR hG P12
  go_wp2_with fail
  refine (number_calls _ [i15, i16, s17, c18, c19, s20, z21, z22, z23, z24, z25] _ 2 _ P13.out.rd (by simp) (by omega)).mono ?_
  try simp only [List.drop_succ_cons, List.drop_zero, List.take_succ_cons, List.take_zero]
  rintro e w14 ⟨rfl, hR, hG⟩
  have P14 := K.mk (P13.out.call hR hG)
  clear hR hG P13
  have c14 := P14.out.c4
  have f14 := P14.out.frz 4
  go_wp2_with fail
  have P15 := K.mk (P14.out.set4 ((numV [i15, i16] : Nat) : Int))
  clear c14 f14 P14
  try generalize World.setCell _ _ _ = w15 at P15 ⊢
  refine (sign_calls _ 58 s17 [c18, c19, s20, z21, z22, z23, z24, z25] _ _ P15.out.rd).mono ?_
  rintro e w16 ⟨rfl, hR, hG⟩
  have P16 := K.mk (P15.out.call hR hG)
  clear hR hG P15
  go_wp2_with fail
  refine (number_calls _ [c18, c19, s20, z21, z22, z23, z24, z25] _ 2 _ P16.out.rd (by simp) (by omega)).mono ?_
  try simp only [List.drop_succ_cons, List.drop_zero, List.take_succ_cons, List.take_zero]
  rintro e w17 ⟨rfl, hR, hG⟩
  have P17 := K.mk (P16.out.call hR hG)
  clear hR hG P16
  have c17 := P17.out.c5
  have f17 := P17.out.frz 5
  go_wp2_with fail
  have P18 := K.mk (P17.out.set5 ((numV [c18, c19] : Nat) : Int))
  clear c17 f17 P17
  try generalize World.setCell _ _ _ = w18 at P18 ⊢
  refine (sign_calls _ 32 s20 [z21, z22, z23, z24, z25] _ _ P18.out.rd).mono ?_
  rintro e w19 ⟨rfl, hR, hG⟩
  have P19 := K.mk (P18.out.call hR hG)
  clear hR hG P18
  go_wp2_with fail
  refine (zone_calls _ z21 z22 z23 z24 z25 _ _ P19.out.rd).mono ?_
  try simp only [List.drop_succ_cons, List.drop_zero, List.take_succ_cons, List.take_zero]
  rintro e w20 ⟨rfl, hR, hG⟩
  have P20 := K.mk (P19.out.call hR hG)
  clear hR hG P19
  have c20 := P20.out.c6
  have f20 := P20.out.frz 6
  replace P20 : K (PS _ _ _ _ _ [] (badOf 32 d1 s2 m3 m4 m5 s6 y7 y8 y9 y10 s11 h12 h13 s14 i15 i16 s17 c18 c19 s20 z21 z22 z23 z24 z25) _ _ _ _ _ _ _) := P20
  have KQ : K (PR26 32 d1 s2 m3 m4 m5 s6 y7 y8 y9 y10 s11 h12 h13 s14 i15 i16 s17 c18 c19 s20 z21 z22 z23 z24 z25 = if (badOf 32 d1 s2 m3 m4 m5 s6 y7 y8 y9 y10 s11 h12 h13 s14 i15 i16 s17 c18 c19 s20 z21 z22 z23 z24 z25 || !Rt ((numV [y7, y8, y9, y10] : Nat) : Int) ((idx mons [m3, m4, m5] : Nat) : Int) (((dayB 32 d1).getD 0 : Nat) : Int) ((numV [h12, h13] : Nat) : Int) ((numV [i15, i16] : Nat) : Int) ((numV [c18, c19] : Nat) : Int) (zonV z21 z22 z23 z24 z25)) = true then .tuple #[stv 0 0 0 0 0 0 0, .int .i64 9] else .tuple #[stv ((numV [y7, y8, y9, y10] : Nat) : Int) ((idx mons [m3, m4, m5] : Nat) : Int) (((dayB 32 d1).getD 0 : Nat) : Int) ((numV [h12, h13] : Nat) : Int) ((numV [i15, i16] : Nat) : Int) ((numV [c18, c19] : Nat) : Int) (zonV z21 z22 z23 z24 z25), .int .i64 0]) := ⟨rfl⟩
  generalize badOf 32 d1 s2 m3 m4 m5 s6 y7 y8 y9 y10 s11 h12 h13 s14 i15 i16 s17 c18 c19 s20 z21 z22 z23 z24 z25 = bad at P20 KQ
  have g0 := P20.out.c0
  have g1 := P20.out.c1
  have g2 := P20.out.c2
  have g3 := P20.out.c3
  have g4 := P20.out.c4
  have g5 := P20.out.c5
  have gb := P20.out.rd.c.2.1
  obtain ⟨⟨r0, r1, r2, r3, r4, r5, r6⟩, ⟨q0, q1, q2, q3, q4, q5, q6⟩⟩ := P20.out.rz
  have P21 := K.mk (P20.out.set6 (zonV z21 z22 z23 z24 z25))
  clear P20
  cases bad with
  | true =>
    replace KQ := K.mk (KQ.out.trans (if_pos rfl))
    go_wp2
    try simp only [Exit.inBlock, Exit.then]
    refine bodyPost_ret (results_row_tmp rfl _ _ w.heap.size _ _ _ _ rfl (P21.out.res _ _ _ _ _ _ _).1 Try.underlying23 rfl rfl) rfl ?_
    exact ⟨by rw [KQ.out]; rfl, (P21.out.res _ _ _ _ _ _ _).2⟩
  | false =>
    clear r0 r1 r2 r3 r4 r5 r6 q0 q1 q2 q3 q4 q5 q6
    go_wp2_with fail
    refine (Right_calls _ _ _ _ _ _ _ _).mono ?_
    rintro e w21 ⟨rfl, hB⟩
    have P22 := K.mk (P21.out.keep hB)
    clear P21 hB c20 f20 g0 g1 g2 g3 g4 g5 gb
    obtain ⟨⟨r0, r1, r2, r3, r4, r5, r6⟩, ⟨q0, q1, q2, q3, q4, q5, q6⟩⟩ := P22.out.rz
    generalize hrt : Rt _ _ _ _ _ _ _ = rt at KQ ⊢
    clear hrt
    cases rt with
    | true =>
      replace KQ := K.mk (KQ.out.trans (if_neg (by simp)))
      have g0 := P22.out.c0
      have g1 := P22.out.c1
      have g2 := P22.out.c2
      have g3 := P22.out.c3
      have g4 := P22.out.c4
      have g5 := P22.out.c5
      have g6 := P22.out.c6
      go_wp2
      try simp only [Exit.inBlock, Exit.then]
      refine bodyPost_ret (results_row_tmp rfl _ _ w.heap.size _ _ _ _ rfl (P22.out.res _ _ _ _ _ _ _).1 Try.underlying23 rfl rfl) rfl ?_
      exact ⟨by rw [KQ.out]; rfl, (P22.out.res _ _ _ _ _ _ _).2⟩
    | false =>
      replace KQ := K.mk (KQ.out.trans (if_pos (by simp)))
      go_wp2
      try simp only [Exit.inBlock, Exit.then]
      refine bodyPost_ret (results_row_tmp rfl _ _ w.heap.size _ _ _ _ rfl (P22.out.res _ _ _ _ _ _ _).1 Try.underlying23 rfl rfl) rfl ?_
      exact ⟨by rw [KQ.out]; rfl, (P22.out.res _ _ _ _ _ _ _).2⟩

set_option maxHeartbeats 8000000 in
set_option maxRecDepth 100000 in
theorem ParseB (d0 d1 s2 m3 m4 m5 s6 y7 y8 y9 y10 s11 h12 h13 s14 i15 i16 s17 c18 c19 s20 z21 z22 z23 z24 z25 : UInt8) (w : World) (hd : d0 ≠ 32) :
    Calls Try.prog 7 #[str [d0, d1, s2, m3, m4, m5, s6, y7, y8, y9, y10, s11, h12, h13, s14, i15, i16, s17, c18, c19, s20, z21, z22, z23, z24, z25]] w fun e w' => e = .returned (PR26 d0 d1 s2 m3 m4 m5 s6 y7 y8 y9 y10 s11 h12 h13 s14 i15 i16 s17 c18 c19 s20 z21 z22 z23 z24 z25) ∧ Below w.heap.size w w' := by
  have hd' : ((d0.toNat : Int) == 32) = false := by rw [beq_eq_false_iff_ne]; intro e; exact hd (UInt8.toNat_inj.1 (by simpa using Int.ofNat_inj.1 e))
  unfold str
  have P0 := K.mk (PS.start w [d0, d1, s2, m3, m4, m5, s6, y7, y8, y9, y10, s11, h12, h13, s14, i15, i16, s17, c18, c19, s20, z21, z22, z23, z24, z25])
  go_enter Try.func7, Try.ntmps7
  go_wp2_with fail
  · exact absurd (show ((d0.toNat : Int) == 32) = true by assumption) (by rw [hd']; simp)
  generalize World.alloc (World.alloc (World.alloc _ _) _) _ = w0 at P0 ⊢
  refine (number_calls _ [d0, d1, s2, m3, m4, m5, s6, y7, y8, y9, y10, s11, h12, h13, s14, i15, i16, s17, c18, c19, s20, z21, z22, z23, z24, z25] _ 2 _ P0.out.rd (by simp) (by omega)).mono ?_
  simp only [List.drop_succ_cons, List.drop_zero, List.take_succ_cons, List.take_zero]
  rintro e w2 ⟨rfl, hR, hG⟩
  have P2 := K.mk (P0.out.call hR hG)
  clear hR hG P0
  have c2 := P2.out.c2
  have f2 := P2.out.frz 2
  go_wp2_with fail
  have P3 := K.mk (P2.out.set2 (numV [d0, d1] : Nat))
  clear c2 f2 P2
  generalize World.setCell _ _ _ = w3 at P3 ⊢
  have hday : dayB d0 d1 = digs [d0, d1] 0 := by simp [dayB, hd]
  rw [show (digs [d0, d1] 0).isNone = (dayB d0 d1).isNone by rw [hday], show numV [d0, d1] = (dayB d0 d1).getD 0 by rw [hday]; rfl] at P3
  clear hday
  refine (sign_calls _ 45 s2 [m3, m4, m5, s6, y7, y8, y9, y10, s11, h12, h13, s14, i15, i16, s17, c18, c19, s20, z21, z22, z23, z24, z25] _ _ P3.out.rd).mono ?_
  rintro e w4 ⟨rfl, hR, hG⟩
  have P4 := K.mk (P3.out.call hR hG)
  clear hR hG P3
  go_wp2_with fail
  refine (month_calls _ [m3, m4, m5, s6, y7, y8, y9, y10, s11, h12, h13, s14, i15, i16, s17, c18, c19, s20, z21, z22, z23, z24, z25] _ _ P4.out.rd (by simp)).mono ?_
  try simp only [List.drop_succ_cons, List.drop_zero, List.take_succ_cons, List.take_zero]
  rintro e w5 ⟨rfl, hR, hG⟩
  have P5 := K.mk (P4.out.call hR hG)
  clear hR hG P4
  have c5 := P5.out.c1
  have f5 := P5.out.frz 1
  go_wp2_with fail
  have P6 := K.mk (P5.out.set1 ((idx mons [m3, m4, m5] : Nat) : Int))
  clear c5 f5 P5
  try generalize World.setCell _ _ _ = w6 at P6 ⊢
  refine (sign_calls _ 45 s6 [y7, y8, y9, y10, s11, h12, h13, s14, i15, i16, s17, c18, c19, s20, z21, z22, z23, z24, z25] _ _ P6.out.rd).mono ?_
  rintro e w7 ⟨rfl, hR, hG⟩
  have P7 := K.mk (P6.out.call hR hG)
  clear hR hG P6
  go_wp2_with fail
  refine (number_calls _ [y7, y8, y9, y10, s11, h12, h13, s14, i15, i16, s17, c18, c19, s20, z21, z22, z23, z24, z25] _ 4 _ P7.out.rd (by simp) (by omega)).mono ?_
  try simp only [List.drop_succ_cons, List.drop_zero, List.take_succ_cons, List.take_zero]
  rintro e w8 ⟨rfl, hR, hG⟩
  have P8 := K.mk (P7.out.call hR hG)
  clear hR hG P7
  have c8 := P8.out.c0
  have f8 := P8.out.frz 0
  go_wp2_with fail
  have P9 := K.mk (P8.out.set0 ((numV [y7, y8, y9, y10] : Nat) : Int))
  clear c8 f8 P8
  try generalize World.setCell _ _ _ = w9 at P9 ⊢
  refine (sign_calls _ 32 s11 [h12, h13, s14, i15, i16, s17, c18, c19, s20, z21, z22, z23, z24, z25] _ _ P9.out.rd).mono ?_
  rintro e w10 ⟨rfl, hR, hG⟩
  have P10 := K.mk (P9.out.call hR hG)
  clear hR hG P9
  go_wp2_with fail
  refine (number_calls _ [h12, h13, s14, i15, i16, s17, c18, c19, s20, z21, z22, z23, z24, z25] _ 2 _ P10.out.rd (by simp) (by omega)).mono ?_
  try simp only [List.drop_succ_cons, List.drop_zero, List.take_succ_cons, List.take_zero]
  rintro e w11 ⟨rfl, hR, hG⟩
  have P11 := K.mk (P10.out.call hR hG)
  clear hR hG P10
  have c11 := P11.out.c3
  have f11 := P11.out.frz 3
  go_wp2_with fail
  have P12 := K.mk (P11.out.set3 ((numV [h12, h13] : Nat) : Int))
  clear c11 f11 P11
  try generalize World.setCell _ _ _ = w12 at P12 ⊢
  refine (sign_calls _ 58 s14 [i15, i16, s17, c18, c19, s20, z21, z22, z23, z24, z25] _ _ P12.out.rd).mono ?_
  rintro e w13 ⟨rfl, hR, hG⟩
  have P13 := K.mk (P12.out.call hR hG)
  clear hR hG P12
  go_wp2_with fail
  refine (number_calls _ [i15, i16, s17, c18, c19, s20, z21, z22, z23, z24, z25] _ 2 _ P13.out.rd (by simp) (by omega)).mono ?_
  try simp only [List.drop_succ_cons, List.drop_zero, List.take_succ_cons, List.take_zero]
  rintro e w14 ⟨rfl, hR, hG⟩
  have P14 := K.mk (P13.out.call hR hG)
  clear hR hG P13
  have c14 := P14.out.c4
  have f14 := P14.out.frz 4
  go_wp2_with fail
  have P15 := K.mk (P14.out.set4 ((numV [i15, i16] : Nat) : Int))
  clear c14 f14 P14
  try generalize World.setCell _ _ _ = w15 at P15 ⊢
  refine (sign_calls _ 58 s17 [c18, c19, s20, z21, z22, z23, z24, z25] _ _ P15.out.rd).mono ?_
  rintro e w16 ⟨rfl, hR, hG⟩
  have P16 := K.mk (P15.out.call hR hG)
  clear hR hG P15
  go_wp2_with fail
  refine (number_calls _ [c18, c19, s20, z21, z22, z23, z24, z25] _ 2 _ P16.out.rd (by simp) (by omega)).mono ?_
  try simp only [List.drop_succ_cons, List.drop_zero, List.take_succ_cons, List.take_zero]
  rintro e w17 ⟨rfl, hR, hG⟩
  have P17 := K.mk (P16.out.call hR hG)
  clear hR hG P16
  have c17 := P17.out.c5
  have f17 := P17.out.frz 5
  go_wp2_with fail
  have P18 := K.mk (P17.out.set5 ((numV [c18, c19] : Nat) : Int))
  clear c17 f17 P17
  try generalize World.setCell _ _ _ = w18 at P18 ⊢
  refine (sign_calls _ 32 s20 [z21, z22, z23, z24, z25] _ _ P18.out.rd).mono ?_
  rintro e w19 ⟨rfl, hR, hG⟩
  have P19 := K.mk (P18.out.call hR hG)
  clear hR hG P18
  go_wp2_with fail
  refine (zone_calls _ z21 z22 z23 z24 z25 _ _ P19.out.rd).mono ?_
  try simp only [List.drop_succ_cons, List.drop_zero, List.take_succ_cons, List.take_zero]
  rintro e w20 ⟨rfl, hR, hG⟩
  have P20 := K.mk (P19.out.call hR hG)
  clear hR hG P19
  have c20 := P20.out.c6
  have f20 := P20.out.frz 6
  replace P20 : K (PS _ _ _ _ _ [] (badOf d0 d1 s2 m3 m4 m5 s6 y7 y8 y9 y10 s11 h12 h13 s14 i15 i16 s17 c18 c19 s20 z21 z22 z23 z24 z25) _ _ _ _ _ _ _) := P20
  have KQ : K (PR26 d0 d1 s2 m3 m4 m5 s6 y7 y8 y9 y10 s11 h12 h13 s14 i15 i16 s17 c18 c19 s20 z21 z22 z23 z24 z25 = if (badOf d0 d1 s2 m3 m4 m5 s6 y7 y8 y9 y10 s11 h12 h13 s14 i15 i16 s17 c18 c19 s20 z21 z22 z23 z24 z25 || !Rt ((numV [y7, y8, y9, y10] : Nat) : Int) ((idx mons [m3, m4, m5] : Nat) : Int) (((dayB d0 d1).getD 0 : Nat) : Int) ((numV [h12, h13] : Nat) : Int) ((numV [i15, i16] : Nat) : Int) ((numV [c18, c19] : Nat) : Int) (zonV z21 z22 z23 z24 z25)) = true then .tuple #[stv 0 0 0 0 0 0 0, .int .i64 9] else .tuple #[stv ((numV [y7, y8, y9, y10] : Nat) : Int) ((idx mons [m3, m4, m5] : Nat) : Int) (((dayB d0 d1).getD 0 : Nat) : Int) ((numV [h12, h13] : Nat) : Int) ((numV [i15, i16] : Nat) : Int) ((numV [c18, c19] : Nat) : Int) (zonV z21 z22 z23 z24 z25), .int .i64 0]) := ⟨rfl⟩
  generalize badOf d0 d1 s2 m3 m4 m5 s6 y7 y8 y9 y10 s11 h12 h13 s14 i15 i16 s17 c18 c19 s20 z21 z22 z23 z24 z25 = bad at P20 KQ
  have g0 := P20.out.c0
  have g1 := P20.out.c1
  have g2 := P20.out.c2
  have g3 := P20.out.c3
  have g4 := P20.out.c4
  have g5 := P20.out.c5
  have gb := P20.out.rd.c.2.1
  obtain ⟨⟨r0, r1, r2, r3, r4, r5, r6⟩, ⟨q0, q1, q2, q3, q4, q5, q6⟩⟩ := P20.out.rz
  have P21 := K.mk (P20.out.set6 (zonV z21 z22 z23 z24 z25))
  clear P20
  cases bad with
  | true =>
    replace KQ := K.mk (KQ.out.trans (if_pos rfl))
    go_wp2
    try simp only [Exit.inBlock, Exit.then]
    refine bodyPost_ret (results_row_tmp rfl _ _ w.heap.size _ _ _ _ rfl (P21.out.res _ _ _ _ _ _ _).1 Try.underlying23 rfl rfl) rfl ?_
    exact ⟨by rw [KQ.out]; rfl, (P21.out.res _ _ _ _ _ _ _).2⟩
  | false =>
    clear r0 r1 r2 r3 r4 r5 r6 q0 q1 q2 q3 q4 q5 q6
    go_wp2_with fail
    refine (Right_calls _ _ _ _ _ _ _ _).mono ?_
    rintro e w21 ⟨rfl, hB⟩
    have P22 := K.mk (P21.out.keep hB)
    clear P21 hB c20 f20 g0 g1 g2 g3 g4 g5 gb
    obtain ⟨⟨r0, r1, r2, r3, r4, r5, r6⟩, ⟨q0, q1, q2, q3, q4, q5, q6⟩⟩ := P22.out.rz
    generalize hrt : Rt _ _ _ _ _ _ _ = rt at KQ ⊢
    clear hrt
    cases rt with
    | true =>
      replace KQ := K.mk (KQ.out.trans (if_neg (by simp)))
      have g0 := P22.out.c0
      have g1 := P22.out.c1
      have g2 := P22.out.c2
      have g3 := P22.out.c3
      have g4 := P22.out.c4
      have g5 := P22.out.c5
      have g6 := P22.out.c6
      go_wp2
      try simp only [Exit.inBlock, Exit.then]
      refine bodyPost_ret (results_row_tmp rfl _ _ w.heap.size _ _ _ _ rfl (P22.out.res _ _ _ _ _ _ _).1 Try.underlying23 rfl rfl) rfl ?_
      exact ⟨by rw [KQ.out]; rfl, (P22.out.res _ _ _ _ _ _ _).2⟩
    | false =>
      replace KQ := K.mk (KQ.out.trans (if_pos (by simp)))
      go_wp2
      try simp only [Exit.inBlock, Exit.then]
      refine bodyPost_ret (results_row_tmp rfl _ _ w.heap.size _ _ _ _ rfl (P22.out.res _ _ _ _ _ _ _).1 Try.underlying23 rfl rfl) rfl ?_
      exact ⟨by rw [KQ.out]; rfl, (P22.out.res _ _ _ _ _ _ _).2⟩

def PRl (xs : List UInt8) : Value := match xs with
  | [d0, d1, s2, m3, m4, m5, s6, y7, y8, y9, y10, s11, h12, h13, s14, i15, i16, s17, c18, c19, s20, z21, z22, z23, z24, z25] => PR26 d0 d1 s2 m3 m4 m5 s6 y7 y8 y9 y10 s11 h12 h13 s14 i15 i16 s17 c18 c19 s20 z21 z22 z23 z24 z25
  | _ => .tuple #[stv 0 0 0 0 0 0 0, .int .i64 9]
theorem PRl_short (xs : List UInt8) (h : xs.length ≠ 26) : PRl xs = .tuple #[stv 0 0 0 0 0 0 0, .int .i64 9] := by
  unfold PRl
  split
  · exact absurd rfl h
  · rfl
theorem ParseC (xs : List UInt8) (w : World) (h : xs.length ≠ 26) (hb : xs.length ≤ 140737488355328) :
    Calls Try.prog 7 #[str xs] w fun e w' => e = .returned (PRl xs) ∧ Below w.heap.size w w' := by
  rw [PRl_short xs h]
  have hl : ((xs.length : Int) != 26) = true := by rw [bne_iff_ne]; omega
  clear h
  have hz := heap_alloc_new w (.cells #[.int .i64 0, .int .i64 0, .int .i64 0, .int .i64 0, .int .i64 0, .int .i64 0, .int .i64 0] 23)
  have KB := K.mk ((Below.refl _ w).alloc (Nat.le_refl _) (.cells #[.int .i64 0, .int .i64 0, .int .i64 0, .int .i64 0, .int .i64 0, .int .i64 0, .int .i64 0] 23))
  have KZ := K.mk hz
  clear hz
  unfold str
  go_enter Try.func7, Try.ntmps7
  go_wp2
  try simp only [Exit.inBlock, Exit.then]
  refine bodyPost_ret (results_row_tmp rfl _ _ w.heap.size _ _ _ _ rfl KZ.out Try.underlying23 rfl rfl) rfl ?_
  exact ⟨rfl, KB.out⟩
theorem Parse_calls (xs : List UInt8) (w : World) (hb : xs.length ≤ 140737488355328) :
    Calls Try.prog 7 #[str xs] w fun e w' => e = .returned (PRl xs) ∧ Below w.heap.size w w' := by
  by_cases h : xs.length = 26
  · obtain ⟨d0, d1, s2, m3, m4, m5, s6, y7, y8, y9, y10, s11, h12, h13, s14, i15, i16, s17, c18, c19, s20, z21, z22, z23, z24, z25, rfl⟩ : ∃ d0 d1 s2 m3 m4 m5 s6 y7 y8 y9 y10 s11 h12 h13 s14 i15 i16 s17 c18 c19 s20 z21 z22 z23 z24 z25, xs = [d0, d1, s2, m3, m4, m5, s6, y7, y8, y9, y10, s11, h12, h13, s14, i15, i16, s17, c18, c19, s20, z21, z22, z23, z24, z25] := by
      match xs, h with
      | [d0, d1, s2, m3, m4, m5, s6, y7, y8, y9, y10, s11, h12, h13, s14, i15, i16, s17, c18, c19, s20, z21, z22, z23, z24, z25], _ => exact ⟨d0, d1, s2, m3, m4, m5, s6, y7, y8, y9, y10, s11, h12, h13, s14, i15, i16, s17, c18, c19, s20, z21, z22, z23, z24, z25, rfl⟩
    by_cases hd : d0 = 32
    · exact ParseA d0 d1 s2 m3 m4 m5 s6 y7 y8 y9 y10 s11 h12 h13 s14 i15 i16 s17 c18 c19 s20 z21 z22 z23 z24 z25 w hd
    · exact ParseB d0 d1 s2 m3 m4 m5 s6 y7 y8 y9 y10 s11 h12 h13 s14 i15 i16 s17 c18 c19 s20 z21 z22 z23 z24 z25 w hd
  · exact ParseC xs w h hb
end Go.Proofs.Ytdeegjhnomdepaa.st

