/- Walks over chapter 8: the law StampParses. -/
import Derived.Test.YtdeegjhnomdepaaSt8
import Derived.Test.YtdeegjhnomdepaaSt9
set_option linter.unusedVariables false
set_option linter.unusedSimpArgs false
namespace Go.Proofs.Ytdeegjhnomdepaa.st
open Go.RowKit Go.Proofs.Ytdeegjhnomdepaa.b

theorem PR_july : PRl [32, 55, 45, 74, 117, 108, 45, 49, 57, 57, 54, 32, 48, 50, 58, 52, 52, 58, 50, 53, 32, 45, 48, 55, 51, 48] = .tuple #[stv 1996 7 7 2 44 25 (-450), .int .i64 0] := by kernel_rfl
theorem awake_calls (w : World) : Calls Try.prog 9 #[] w fun e w' => e = .returned (.bool true) ∧ Below w.heap.size w w' := by
  go_enter Try.func9, Try.ntmps9
  go_wp2_with fail
  refine (Parse_calls [32, 55, 45, 74, 117, 108, 45, 49, 57, 57, 54, 32, 48, 50, 58, 52, 52, 58, 50, 53, 32, 45, 48, 55, 51, 48] w (by decide)).mono ?_
  rintro e w1 ⟨rfl, hB⟩
  rw [PR_july]
  have KB := K.mk hB
  clear hB
  unfold stv
  go_wp2
  go_ret
  exact ⟨rfl, KB.out.alloc KB.out.size _⟩

theorem digs1 (b : UInt8) : digs [b] 0 = if 48 ≤ b.toNat ∧ b.toNat ≤ 57 then some (b.toNat - 48) else none := by simp [digs]
theorem digs2 (a b : UInt8) : digs [a, b] 0 = if 48 ≤ a.toNat ∧ a.toNat ≤ 57 then (if 48 ≤ b.toNat ∧ b.toNat ≤ 57 then some (10 * (a.toNat - 48) + (b.toNat - 48)) else none) else none := by
  simp [digs]
theorem digs4 (a b c d : UInt8) : digs [a, b, c, d] 0 = match digs [a, b] 0, digs [c, d] 0 with | some x, some y => some (100 * x + y) | _, _ => none := by
  rw [digs2 a b, digs2 c d]
  by_cases ha : 48 ≤ a.toNat ∧ a.toNat ≤ 57 <;> by_cases hb : 48 ≤ b.toNat ∧ b.toNat ≤ 57 <;> by_cases hc : 48 ≤ c.toNat ∧ c.toNat ≤ 57 <;> by_cases hd : 48 ≤ d.toNat ∧ d.toNat ≤ 57 <;> simp [digs, ha, hb, hc, hd]
  omega
theorem digs2_zero (a b : UInt8) : digs [a, b] 0 = some 0 ↔ a = 48 ∧ b = 48 := by
  rw [digs2]
  constructor
  · intro h
    split at h
    · split at h
      · simp only [Option.some.injEq] at h
        exact ⟨UInt8.toNat_inj.1 (by simp; omega), UInt8.toNat_inj.1 (by simp; omega)⟩
      · cases h
    · cases h
  · rintro ⟨rfl, rfl⟩; decide
theorem digs2_lt (a b : UInt8) (n : Nat) (h : digs [a, b] 0 = some n) : n < 100 := by
  have := digs_lt [a, b] 0 n h
  simp at this
  omega
theorem dayR_eq (d0 d1 : UInt8) : dayR d0 d1 = match dayB d0 d1 with | some n => (n : Int) | none => -1 := by
  by_cases h : d0 = 32
  · have : digs [48, d1] 0 = digs [d1] 0 := by rw [digs1, digs2]; by_cases h1 : 48 ≤ d1.toNat ∧ d1.toNat ≤ 57 <;> simp [h1]
    simp only [dayR, dayB, h, if_true, twoV, this]
    rfl
  · simp only [dayR, dayB, h, if_false, twoV]
    rfl
theorem PR_eq (d0 d1 s2 m3 m4 m5 s6 y7 y8 y9 y10 s11 h12 h13 s14 i15 i16 s17 c18 c19 s20 z21 z22 z23 z24 z25 : UInt8) : PR26 d0 d1 s2 m3 m4 m5 s6 y7 y8 y9 y10 s11 h12 h13 s14 i15 i16 s17 c18 c19 s20 z21 z22 z23 z24 z25 = RR26 d0 d1 s2 m3 m4 m5 s6 y7 y8 y9 y10 s11 h12 h13 s14 i15 i16 s17 c18 c19 s20 z21 z22 z23 z24 z25 := by
  by_cases hs : s2 = 45 ∧ s6 = 45 ∧ s11 = 32 ∧ s14 = 58 ∧ s17 = 58 ∧ s20 = 32
  case neg =>
    have hb : badOf d0 d1 s2 m3 m4 m5 s6 y7 y8 y9 y10 s11 h12 h13 s14 i15 i16 s17 c18 c19 s20 z21 z22 z23 z24 z25 = true := by
      simp only [badOf, Bool.or_eq_true, bne_iff_ne]
      by_cases h1 : s2 = 45
      · by_cases h2 : s6 = 45
        · by_cases h3 : s11 = 32
          · by_cases h4 : s14 = 58
            · by_cases h5 : s17 = 58
              · have h6 : s20 ≠ 32 := fun h6 => hs ⟨h1, h2, h3, h4, h5, h6⟩
                simp [h6]
              · simp [h5]
            · simp [h4]
          · simp [h3]
        · simp [h2]
      · simp [h1]
    rw [PR26, RR26, if_neg hs, hb]
    rfl
  rw [RR26, if_pos hs]
  obtain ⟨rfl, rfl, rfl, rfl, rfl, rfl⟩ := hs
  unfold PR26 RRb
  rw [dayR_eq]
  unfold badOf zonB zonV numV
  rw [digs4]
  unfold twoV
  have z2 := digs2_zero z22 z23
  have z4 := digs2_zero z24 z25
  have l2 := digs2_lt z22 z23
  have l4 := digs2_lt z24 z25
  generalize hmo : idx mons [m3, m4, m5] = mo
  cases hD : dayB d0 d1 with
  | none => rw [if_pos (by simp), if_neg (by rw [Rt_false (by simp)]; simp)]
  | some D =>
  cases hH : digs [h12, h13] 0 with
  | none => rw [if_pos (by simp), if_neg (by rw [Rt_false (by simp)]; simp)]
  | some Hh =>
  cases hI : digs [i15, i16] 0 with
  | none => rw [if_pos (by simp), if_neg (by rw [Rt_false (by simp)]; simp)]
  | some Ii =>
  cases hC : digs [c18, c19] 0 with
  | none => rw [if_pos (by simp), if_neg (by rw [Rt_false (by simp)]; simp)]
  | some Cc =>
  cases hY : digs [y7, y8] 0 with
  | none => rw [if_pos (by simp), if_neg (by simp)]
  | some Y1 =>
  cases hY2 : digs [y9, y10] 0 with
  | none => rw [if_pos (by simp), if_neg (by simp)]
  | some Y2 =>
  cases hZ : digs [z22, z23] 0 with
  | none => rw [if_pos (by simp), if_neg (by simp)]
  | some Z1 =>
  cases hZ2 : digs [z24, z25] 0 with
  | none => rw [if_pos (by simp), if_neg (by simp)]
  | some Z2 =>
  rw [hZ] at z2 l2
  rw [hZ2] at z4 l4
  simp only [Option.some.injEq] at z2 z4
  simp only [Option.getD_some, Option.isNone_some, Bool.or_false, Bool.false_or]
  have c1 : ((100 * Y1 + Y2 : Nat) : Int) = 100 * (Y1 : Int) + Y2 := by omega
  have c2 : ((60 * Z1 + Z2 : Nat) : Int) = 60 * (Z1 : Int) + Z2 := by omega
  rw [c1, c2]
  generalize (if z21 = 45 then -(60 * (Z1 : Int) + Z2) else 60 * (Z1 : Int) + Z2) = ZZ
  by_cases hR : Rt (100 * (Y1 : Int) + Y2) mo D Hh Ii Cc ZZ = true
  · have hmo0 : mo ≠ 0 := by have := (Rt_true.1 hR).2.1; omega
    by_cases hP : (z21 ≠ 43 ∧ z21 ≠ 45) ∨ (z21 = 45 ∧ 60 * Z1 + Z2 = 0) ∨ 59 < Z2
    · rw [if_pos (by rw [decide_eq_true hP]; simp), if_neg ?_]
      rintro ⟨_, _, _, _, h5, h6, h7, _⟩
      rcases hP with hp | hp | hp
      · rcases h6 with h | h
        · exact hp.1 h
        · exact hp.2 h
      · apply h7
        obtain ⟨rfl, rfl⟩ := z2.1 (by omega)
        obtain ⟨rfl, rfl⟩ := z4.1 (by omega)
        rw [hp.1]
      · omega
    · have h6 : z21 = 43 ∨ z21 = 45 := by
        by_cases h1 : z21 = 43
        · exact .inl h1
        · by_cases h2 : z21 = 45
          · exact .inr h2
          · exact absurd (.inl ⟨h1, h2⟩) hP
      have h7 : ¬ [z21, z22, z23, z24, z25] = [45, 48, 48, 48, 48] := by
        intro he
        injection he with e1 he
        injection he with e2 he
        injection he with e3 he
        injection he with e4 he
        injection he with e5 he
        exact hP (.inr (.inl ⟨e1, by have := z2.2 ⟨e2, e3⟩; have := z4.2 ⟨e4, e5⟩; omega⟩))
      rw [if_neg (by rw [decide_eq_false hP, hR]; simp [hmo0]), if_pos ⟨by omega, by omega, by omega, by omega, by omega, h6, h7, hR⟩]
  · have hR' : Rt (100 * (Y1 : Int) + Y2) mo D Hh Ii Cc ZZ = false := by simpa using hR
    rw [if_pos (by rw [hR']; simp), if_neg (by rw [hR']; simp)]
theorem PRl_eq (xs : List UInt8) : PRl xs = RRl xs := by
  by_cases h : xs.length = 26
  · obtain ⟨d0, d1, s2, m3, m4, m5, s6, y7, y8, y9, y10, s11, h12, h13, s14, i15, i16, s17, c18, c19, s20, z21, z22, z23, z24, z25, rfl⟩ : ∃ d0 d1 s2 m3 m4 m5 s6 y7 y8 y9 y10 s11 h12 h13 s14 i15 i16 s17 c18 c19 s20 z21 z22 z23 z24 z25, xs = [d0, d1, s2, m3, m4, m5, s6, y7, y8, y9, y10, s11, h12, h13, s14, i15, i16, s17, c18, c19, s20, z21, z22, z23, z24, z25] := by
      match xs, h with
      | [d0, d1, s2, m3, m4, m5, s6, y7, y8, y9, y10, s11, h12, h13, s14, i15, i16, s17, c18, c19, s20, z21, z22, z23, z24, z25], _ => exact ⟨d0, d1, s2, m3, m4, m5, s6, y7, y8, y9, y10, s11, h12, h13, s14, i15, i16, s17, c18, c19, s20, z21, z22, z23, z24, z25, rfl⟩
    exact PR_eq d0 d1 s2 m3 m4 m5 s6 y7 y8 y9 y10 s11 h12 h13 s14 i15 i16 s17 c18 c19 s20 z21 z22 z23 z24 z25
  · rw [PRl_short xs h, RRl_short xs h]

theorem PRl_agg (xs : List UInt8) : ∃ y m d h mi s z er, PRl xs = .tuple #[stv y m d h mi s z, .int .i64 er] := by
  by_cases h : xs.length = 26
  · obtain ⟨d0, d1, s2, m3, m4, m5, s6, y7, y8, y9, y10, s11, h12, h13, s14, i15, i16, s17, c18, c19, s20, z21, z22, z23, z24, z25, rfl⟩ : ∃ d0 d1 s2 m3 m4 m5 s6 y7 y8 y9 y10 s11 h12 h13 s14 i15 i16 s17 c18 c19 s20 z21 z22 z23 z24 z25, xs = [d0, d1, s2, m3, m4, m5, s6, y7, y8, y9, y10, s11, h12, h13, s14, i15, i16, s17, c18, c19, s20, z21, z22, z23, z24, z25] := by
      match xs, h with
      | [d0, d1, s2, m3, m4, m5, s6, y7, y8, y9, y10, s11, h12, h13, s14, i15, i16, s17, c18, c19, s20, z21, z22, z23, z24, z25], _ => exact ⟨d0, d1, s2, m3, m4, m5, s6, y7, y8, y9, y10, s11, h12, h13, s14, i15, i16, s17, c18, c19, s20, z21, z22, z23, z24, z25, rfl⟩
    show ∃ y m d h mi s z er, PR26 d0 d1 s2 m3 m4 m5 s6 y7 y8 y9 y10 s11 h12 h13 s14 i15 i16 s17 c18 c19 s20 z21 z22 z23 z24 z25 = _
    unfold PR26
    split
    · exact ⟨0, 0, 0, 0, 0, 0, 0, 9, rfl⟩
    · exact ⟨_, _, _, _, _, _, _, 0, rfl⟩
  · exact ⟨0, 0, 0, 0, 0, 0, 0, 9, PRl_short xs h⟩
theorem StampParses_calls (xs : List UInt8) (w : World) (hb : xs.length ≤ 140737488355328) :
    Calls Try.prog 3 #[str xs] w fun e w' => e = .returned (.bool true) ∧ Below w.heap.size w w' := by
  have KC := K.mk (fun W => Parse_calls xs W hb)
  have KR := K.mk (fun W => rParse_calls xs W hb)
  rw [← PRl_eq] at KR
  obtain ⟨y, m, d, h, mi, s, z, er, he⟩ := PRl_agg xs
  rw [he] at KC KR
  clear he
  unfold str at KC KR ⊢
  go_enter Try.func3, Try.ntmps3
  go_wp2_with fail
  refine (KC.out _).mono ?_
  rintro e w1 ⟨rfl, hB⟩
  have KB1 := K.mk hB
  clear hB
  unfold stv
  go_wp2_with fail
  have hz := heap_alloc_new w1 (.cells #[.int .i64 y, .int .i64 m, .int .i64 d, .int .i64 h, .int .i64 mi, .int .i64 s, .int .i64 z] 23)
  have KZ := K.mk hz
  clear hz
  have KB2 := K.mk (KB1.out.alloc KB1.out.size (.cells #[.int .i64 y, .int .i64 m, .int .i64 d, .int .i64 h, .int .i64 mi, .int .i64 s, .int .i64 z] 23))
  have hs2 : (w1.alloc (.cells #[.int .i64 y, .int .i64 m, .int .i64 d, .int .i64 h, .int .i64 mi, .int .i64 s, .int .i64 z] 23)).heap.size = w1.heap.size + 1 := by simp
  generalize w1.alloc _ = w2 at KZ KB2 hs2 ⊢
  refine (KR.out _).mono ?_
  rintro e w3 ⟨rfl, hB⟩
  have KZ3 := K.mk ((hB.block w1.heap.size (by omega)).trans KZ.out)
  have KB3 := K.mk (thn KB2.out hB)
  have hs3 := hB.size
  clear hB KZ
  unfold stv
  go_wp2_with fail
  have KB4 := K.mk (KB3.out.alloc KB3.out.size (.cells #[.int .i64 y, .int .i64 m, .int .i64 d, .int .i64 h, .int .i64 mi, .int .i64 s, .int .i64 z] 23))
  have KY := K.mk (heap_alloc_new w3 (.cells #[.int .i64 y, .int .i64 m, .int .i64 d, .int .i64 h, .int .i64 mi, .int .i64 s, .int .i64 z] 23))
  have KZ4 := K.mk ((Lib.alloc_old w3 (.cells #[.int .i64 y, .int .i64 m, .int .i64 d, .int .i64 h, .int .i64 mi, .int .i64 s, .int .i64 z] 23) w1.heap.size (by omega)).trans KZ3.out)
  have hs4 : (w3.alloc (.cells #[.int .i64 y, .int .i64 m, .int .i64 d, .int .i64 h, .int .i64 mi, .int .i64 s, .int .i64 z] 23)).heap.size = w3.heap.size + 1 := by simp
  generalize w3.alloc _ = w4 at KB4 KY KZ4 hs4 ⊢
  refine (awake_calls _).mono ?_
  rintro e w5 ⟨rfl, hB⟩
  have KB5 := K.mk (thn KB4.out hB)
  obtain ⟨y0, y1, y2, y3, y4, y5, y6⟩ := st_cells ((hB.block w3.heap.size (by omega)).trans KY.out)
  obtain ⟨z0, z1, z2, z3, z4, z5, z6⟩ := st_cells ((hB.block w1.heap.size (by omega)).trans KZ4.out)
  clear hB
  go_wp2
  go_ret
  exact ⟨rfl, KB5.out⟩
end Go.Proofs.Ytdeegjhnomdepaa.st

