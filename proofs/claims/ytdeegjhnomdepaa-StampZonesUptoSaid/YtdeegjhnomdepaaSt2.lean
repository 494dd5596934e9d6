/- Walks over chapter 8: whether a stamp may be. -/
import Derived.Test.YtdeegjhnomdepaaSt2a
import Derived.Test.YtdeegjhnomdepaaSt2b
set_option linter.unusedVariables false
set_option linter.unusedSimpArgs false
namespace Go.Proofs.Ytdeegjhnomdepaa.st
open Go.RowKit Go.Proofs.Ytdeegjhnomdepaa.b

theorem Right_calls (y m d h mi s z : Int) (w : World) :
    Calls Try.prog 20 #[stv y m d h mi s z] w fun e w' => e = .returned (.bool (Rt y m d h mi s z)) ∧ Below w.heap.size w w' := by
  rcases hb0 : btw 1900 y 2999 with _ | _
  · have e : Rt y m d h mi s z = false := by simp [Rt, *]
    rw [e]
    exact Right_no0 y m d h mi s z w hb0
  · skip
    rcases hb1 : btw 1 m 12 with _ | _
    · have e : Rt y m d h mi s z = false := by simp [Rt, *]
      rw [e]
      exact Right_no1 y m d h mi s z w hb0 hb1
    · skip
      rcases hb2 : btw 1 d (dm y m) with _ | _
      · have e : Rt y m d h mi s z = false := by simp [Rt, *]
        rw [e]
        exact Right_no2 y m d h mi s z w hb0 hb1 hb2
      · skip
        rcases hb3 : btw 0 h 23 with _ | _
        · have e : Rt y m d h mi s z = false := by simp [Rt, *]
          rw [e]
          exact Right_no3 y m d h mi s z w hb0 hb1 hb2 hb3
        · skip
          rcases hb4 : btw 0 mi 59 with _ | _
          · have e : Rt y m d h mi s z = false := by simp [Rt, *]
            rw [e]
            exact Right_no4 y m d h mi s z w hb0 hb1 hb2 hb3 hb4
          · skip
            rcases hb5 : btw 0 s 59 with _ | _
            · have e : Rt y m d h mi s z = false := by simp [Rt, *]
              rw [e]
              exact Right_no5 y m d h mi s z w hb0 hb1 hb2 hb3 hb4 hb5
            · skip
              rcases hb6 : btw (-959) z 959 with _ | _
              · have e : Rt y m d h mi s z = false := by simp [Rt, *]
                rw [e]
                exact Right_no6 y m d h mi s z w hb0 hb1 hb2 hb3 hb4 hb5 hb6
              · have e : Rt y m d h mi s z = true := by simp [Rt, *]
                rw [e]
                exact Right_yes y m d h mi s z w hb0 hb1 hb2 hb3 hb4 hb5 hb6
end Go.Proofs.Ytdeegjhnomdepaa.st

