/- Walks over chapter 8: the reference's Parse. -/
import Derived.Test.YtdeegjhnomdepaaSt8a
import Derived.Test.YtdeegjhnomdepaaSt8b
set_option linter.unusedVariables false
set_option linter.unusedSimpArgs false
namespace Go.Proofs.Ytdeegjhnomdepaa.st
open Go.RowKit Go.Proofs.Ytdeegjhnomdepaa.b

def RRl (xs : List UInt8) : Value := match xs with
  | [d0, d1, s2, m3, m4, m5, s6, y7, y8, y9, y10, s11, h12, h13, s14, i15, i16, s17, c18, c19, s20, z21, z22, z23, z24, z25] => RR26 d0 d1 s2 m3 m4 m5 s6 y7 y8 y9 y10 s11 h12 h13 s14 i15 i16 s17 c18 c19 s20 z21 z22 z23 z24 z25
  | _ => .tuple #[stv 0 0 0 0 0 0 0, .int .i64 9]
theorem RRl_short (xs : List UInt8) (h : xs.length ≠ 26) : RRl xs = .tuple #[stv 0 0 0 0 0 0 0, .int .i64 9] := by
  unfold RRl
  split
  · exact absurd rfl h
  · rfl
theorem rParseC (xs : List UInt8) (w : World) (h : xs.length ≠ 26) (hb : xs.length ≤ 140737488355328) :
    Calls Try.prog 8 #[str xs] w fun e w' => e = .returned (RRl xs) ∧ Below w.heap.size w w' := by
  rw [RRl_short xs h]
  have hl : ((xs.length : Int) != 26) = true := by rw [bne_iff_ne]; omega
  clear h
  have hz := heap_alloc_new w (.cells #[.int .i64 0, .int .i64 0, .int .i64 0, .int .i64 0, .int .i64 0, .int .i64 0, .int .i64 0] 23)
  have KB := K.mk ((Below.refl _ w).alloc (Nat.le_refl _) (.cells #[.int .i64 0, .int .i64 0, .int .i64 0, .int .i64 0, .int .i64 0, .int .i64 0, .int .i64 0] 23))
  have KZ := K.mk hz
  clear hz
  unfold str
  go_enter Try.func8, Try.ntmps8
  go_wp2
  try simp only [Exit.inBlock, Exit.then]
  refine bodyPost_ret (results_row_tmp rfl _ _ w.heap.size _ _ _ _ rfl KZ.out Try.underlying23 rfl rfl) rfl ?_
  exact ⟨rfl, KB.out⟩
theorem rParse_calls (xs : List UInt8) (w : World) (hb : xs.length ≤ 140737488355328) :
    Calls Try.prog 8 #[str xs] w fun e w' => e = .returned (RRl xs) ∧ Below w.heap.size w w' := by
  by_cases h : xs.length = 26
  · obtain ⟨d0, d1, s2, m3, m4, m5, s6, y7, y8, y9, y10, s11, h12, h13, s14, i15, i16, s17, c18, c19, s20, z21, z22, z23, z24, z25, rfl⟩ : ∃ d0 d1 s2 m3 m4 m5 s6 y7 y8 y9 y10 s11 h12 h13 s14 i15 i16 s17 c18 c19 s20 z21 z22 z23 z24 z25, xs = [d0, d1, s2, m3, m4, m5, s6, y7, y8, y9, y10, s11, h12, h13, s14, i15, i16, s17, c18, c19, s20, z21, z22, z23, z24, z25] := by
      match xs, h with
      | [d0, d1, s2, m3, m4, m5, s6, y7, y8, y9, y10, s11, h12, h13, s14, i15, i16, s17, c18, c19, s20, z21, z22, z23, z24, z25], _ => exact ⟨d0, d1, s2, m3, m4, m5, s6, y7, y8, y9, y10, s11, h12, h13, s14, i15, i16, s17, c18, c19, s20, z21, z22, z23, z24, z25, rfl⟩
    by_cases hd : d0 = 32
    · exact rParseA d0 d1 s2 m3 m4 m5 s6 y7 y8 y9 y10 s11 h12 h13 s14 i15 i16 s17 c18 c19 s20 z21 z22 z23 z24 z25 w hd
    · exact rParseB d0 d1 s2 m3 m4 m5 s6 y7 y8 y9 y10 s11 h12 h13 s14 i15 i16 s17 c18 c19 s20 z21 z22 z23 z24 z25 w hd
  · exact rParseC xs w h hb
end Go.Proofs.Ytdeegjhnomdepaa.st

