/- Walks over chapter 8: the reference's test of a stamp, whole. -/
import Derived.Test.YtdeegjhnomdepaaSt6a
import Derived.Test.YtdeegjhnomdepaaSt6b
import Derived.Test.YtdeegjhnomdepaaSt6c
import Derived.Test.YtdeegjhnomdepaaSt6d
set_option linter.unusedVariables false
set_option linter.unusedSimpArgs false
namespace Go.Proofs.Ytdeegjhnomdepaa.st
open Go.RowKit Go.Proofs.Ytdeegjhnomdepaa.b

theorem rRight_calls (y m d h mi s z : Int) (w : World) :
    Calls Try.prog 10 #[stv y m d h mi s z] w fun e w' => e = .returned (.bool (Rt y m d h mi s z)) ∧ Below w.heap.size w w' := by
  by_cases b0 : 1900 ≤ y
  case neg =>
    rw [Rt_false (by omega)]
    exact rRight_0 y m d h mi s z w  (decide_eq_false b0)
  by_cases b1 : y ≤ 2999
  case neg =>
    rw [Rt_false (by omega)]
    exact rRight_1 y m d h mi s z w b0 (decide_eq_false b1)
  by_cases b2 : 1 ≤ m
  case neg =>
    rw [Rt_false (by omega)]
    exact rRight_2 y m d h mi s z w b0 b1 (decide_eq_false b2)
  by_cases b3 : m ≤ 12
  case neg =>
    rw [Rt_false (by omega)]
    exact rRight_3 y m d h mi s z w b0 b1 b2 (decide_eq_false b3)
  by_cases b4 : 1 ≤ d
  case neg =>
    rw [Rt_false (by omega)]
    exact rRight_4 y m d h mi s z w b0 b1 b2 b3 (decide_eq_false b4)
  by_cases b5 : d ≤ dm y m
  case neg =>
    rw [Rt_false (by omega)]
    exact rRight_5 y m d h mi s z w b0 b1 b2 b3 b4 (decide_eq_false b5)
  by_cases b6 : 0 ≤ h
  case neg =>
    rw [Rt_false (by omega)]
    exact rRight_6 y m d h mi s z w b0 b1 b2 b3 b4 b5 (decide_eq_false b6)
  by_cases b7 : h ≤ 23
  case neg =>
    rw [Rt_false (by omega)]
    exact rRight_7 y m d h mi s z w b0 b1 b2 b3 b4 b5 b6 (decide_eq_false b7)
  by_cases b8 : 0 ≤ mi
  case neg =>
    rw [Rt_false (by omega)]
    exact rRight_8 y m d h mi s z w b0 b1 b2 b3 b4 b5 b6 b7 (decide_eq_false b8)
  by_cases b9 : mi ≤ 59
  case neg =>
    rw [Rt_false (by omega)]
    exact rRight_9 y m d h mi s z w b0 b1 b2 b3 b4 b5 b6 b7 b8 (decide_eq_false b9)
  by_cases b10 : 0 ≤ s
  case neg =>
    rw [Rt_false (by omega)]
    exact rRight_10 y m d h mi s z w b0 b1 b2 b3 b4 b5 b6 b7 b8 b9 (decide_eq_false b10)
  by_cases b11 : s ≤ 59
  case neg =>
    rw [Rt_false (by omega)]
    exact rRight_11 y m d h mi s z w b0 b1 b2 b3 b4 b5 b6 b7 b8 b9 b10 (decide_eq_false b11)
  by_cases b12 : -959 ≤ z
  case neg =>
    rw [Rt_false (by omega)]
    exact rRight_12 y m d h mi s z w b0 b1 b2 b3 b4 b5 b6 b7 b8 b9 b10 b11 (decide_eq_false b12)
  by_cases b13 : z ≤ 959
  case neg =>
    rw [Rt_false (by omega)]
    exact rRight_13 y m d h mi s z w b0 b1 b2 b3 b4 b5 b6 b7 b8 b9 b10 b11 b12 (decide_eq_false b13)
  rw [Rt_true.2 (by omega)]
  exact rRight_14 y m d h mi s z w b0 b1 b2 b3 b4 b5 b6 b7 b8 b9 b10 b11 b12 b13
end Go.Proofs.Ytdeegjhnomdepaa.st

