/- Walks over chapter 8: the law StampAt. -/
import Derived.Test.YtdeegjhnomdepaaAt2
import Derived.Test.YtdeegjhnomdepaaAt3
import Derived.Test.YtdeegjhnomdepaaSt10
set_option linter.unusedVariables false
set_option linter.unusedSimpArgs false
namespace Go.Proofs.Ytdeegjhnomdepaa.st
open Go.RowKit Go.Proofs.Ytdeegjhnomdepaa.b

theorem rAt_calls (sec z : Int) (w : World) :
    Calls Try.prog 14 #[.int .i64 sec, .int .i64 z] w fun e w' => ∃ v, e = .returned v ∧ AtV sec z v ∧ Below w.heap.size w w' := by
  by_cases h : z < -959 ∨ 959 < z ∨ sec < -3000000000 ∨ 33000000000 < sec
  · exact rAt_out sec z w h
  · exact rAt_in sec z w (by omega) (by omega) (by omega) (by omega)
theorem AtV_agg {sec z : Int} {v : Value} (h : AtV sec z v) : ∃ y m d h mi s q b, v = .tuple #[stv y m d h mi s q, .bool b] := by
  rcases h with ⟨_, rfl⟩ | ⟨y, m, d, a, b, c, _, _, rfl⟩
  · exact ⟨_, _, _, _, _, _, _, _, rfl⟩
  · exact ⟨_, _, _, _, _, _, _, _, rfl⟩
theorem StampAt_calls (sec z : Int) (w : World) :
    Calls Try.prog 5 #[.int .i64 sec, .int .i64 z] w fun e w' => e = .returned (.bool true) ∧ Below w.heap.size w w' := by
  go_enter Try.func5, Try.ntmps5
  go_wp2_with fail
  refine (At_calls sec z _).mono ?_
  rintro e w1 ⟨v, rfl, hv, hB⟩
  have KB1 := K.mk hB
  have KV := K.mk hv
  obtain ⟨y, m, d, h, mi, s, q, b, rfl⟩ := AtV_agg hv
  clear hB hv
  unfold stv at KV ⊢
  go_wp2_with fail
  have KZ := K.mk (heap_alloc_new w1 (.cells #[.int .i64 y, .int .i64 m, .int .i64 d, .int .i64 h, .int .i64 mi, .int .i64 s, .int .i64 q] 23))
  have KB2 := K.mk (KB1.out.alloc KB1.out.size (.cells #[.int .i64 y, .int .i64 m, .int .i64 d, .int .i64 h, .int .i64 mi, .int .i64 s, .int .i64 q] 23))
  have hs2 : (w1.alloc (.cells #[.int .i64 y, .int .i64 m, .int .i64 d, .int .i64 h, .int .i64 mi, .int .i64 s, .int .i64 q] 23)).heap.size = w1.heap.size + 1 := by simp
  generalize w1.alloc _ = w2 at KZ KB2 hs2 ⊢
  refine (rAt_calls sec z _).mono ?_
  rintro e w3 ⟨v, rfl, hv, hB⟩
  obtain rfl := AtV_one hv KV.out
  have KZ3 := K.mk ((hB.block w1.heap.size (by omega)).trans KZ.out)
  have KB3 := K.mk (thn KB2.out hB)
  have hs3 := hB.size
  clear hB KZ KV hv
  go_wp2_with fail
  have KB4 := K.mk (KB3.out.alloc KB3.out.size (.cells #[.int .i64 y, .int .i64 m, .int .i64 d, .int .i64 h, .int .i64 mi, .int .i64 s, .int .i64 q] 23))
  have KY := K.mk (heap_alloc_new w3 (.cells #[.int .i64 y, .int .i64 m, .int .i64 d, .int .i64 h, .int .i64 mi, .int .i64 s, .int .i64 q] 23))
  have KZ4 := K.mk ((Lib.alloc_old w3 (.cells #[.int .i64 y, .int .i64 m, .int .i64 d, .int .i64 h, .int .i64 mi, .int .i64 s, .int .i64 q] 23) w1.heap.size (by omega)).trans KZ3.out)
  have hs4 : (w3.alloc (.cells #[.int .i64 y, .int .i64 m, .int .i64 d, .int .i64 h, .int .i64 mi, .int .i64 s, .int .i64 q] 23)).heap.size = w3.heap.size + 1 := by simp
  generalize w3.alloc _ = w4 at KB4 KY KZ4 hs4 ⊢
  refine (awake_calls _).mono ?_
  rintro e w5 ⟨rfl, hB⟩
  have KB5 := K.mk (thn KB4.out hB)
  obtain ⟨y0, y1, y2, y3, y4, y5, y6⟩ := st_cells ((hB.block w3.heap.size (by omega)).trans KY.out)
  obtain ⟨z0, z1, z2, z3, z4, z5, z6⟩ := st_cells ((hB.block w1.heap.size (by omega)).trans KZ4.out)
  clear hB
  go_wp2
  go_ret
  exact ⟨rfl, KB5.out⟩
end Go.Proofs.Ytdeegjhnomdepaa.st

