/- Walks over chapter 8: which dates may be. -/
import Derived.Test.YtdeegjhnomdepaaBase
import Derived.Test.YtdeegjhnomdepaaProg
set_option linter.unusedVariables false
set_option linter.unusedSimpArgs false
namespace Go.Proofs.Ytdeegjhnomdepaa.st
open Go.RowKit Go.Proofs.Ytdeegjhnomdepaa.b

/-- Has a year a day more? -/
def lp (y : Int) : Bool := (y.tmod 4 == 0) && ((y.tmod 100 != 0) || (y.tmod 400 == 0))
def dm (y m : Int) : Int := if m = 2 then (if lp y = true then 29 else 28) else if m = 4 ∨ m = 6 ∨ m = 9 ∨ m = 11 then 30 else 31
theorem dm_range (y m : Int) : 28 ≤ dm y m ∧ dm y m ≤ 31 := by unfold dm; split <;> (try split) <;> omega
def btw (lo v hi : Int) : Bool := decide (lo ≤ v) && decide (v ≤ hi)
theorem btw_true {lo v hi : Int} : btw lo v hi = true ↔ lo ≤ v ∧ v ≤ hi := by simp [btw]
theorem btw_false {lo v hi : Int} : btw lo v hi = false ↔ ¬ (lo ≤ v ∧ v ≤ hi) := by rw [← btw_true]; simp
def Rt (y m d h mi s z : Int) : Bool := btw 1900 y 2999 && btw 1 m 12 && btw 1 d (dm y m) && btw 0 h 23 && btw 0 mi 59 && btw 0 s 59 && btw (-959) z 959
theorem Rt_true {y m d h mi s z : Int} : Rt y m d h mi s z = true ↔ (1900 ≤ y ∧ y ≤ 2999) ∧ (1 ≤ m ∧ m ≤ 12) ∧ (1 ≤ d ∧ d ≤ dm y m) ∧ (0 ≤ h ∧ h ≤ 23) ∧ (0 ≤ mi ∧ mi ≤ 59) ∧ (0 ≤ s ∧ s ≤ 59) ∧ (-959 ≤ z ∧ z ≤ 959) := by
  simp [Rt, btw]; omega
theorem Rt_false {y m d h mi s z : Int} (hh : ¬ ((1900 ≤ y ∧ y ≤ 2999) ∧ (1 ≤ m ∧ m ≤ 12) ∧ (1 ≤ d ∧ d ≤ dm y m) ∧ (0 ≤ h ∧ h ≤ 23) ∧ (0 ≤ mi ∧ mi ≤ 59) ∧ (0 ≤ s ∧ s ≤ 59) ∧ (-959 ≤ z ∧ z ≤ 959))) : Rt y m d h mi s z = false := by
  rw [← Rt_true] at hh; simpa using hh

theorem leap_calls (y : Int) (w : World) :
    Calls Try.prog 30 #[.int .i64 y] w fun e w' => e = .returned (.bool (lp y)) ∧ w' = w := by
  go_enter Try.func30, Try.ntmps30
  go_wp2
  all_goals
    go_ret
    exact ⟨by simp [lp, *], rfl⟩
theorem rleap_calls (y : Int) (w : World) :
    Calls Try.prog 29 #[.int .i64 y] w fun e w' => e = .returned (.bool (lp y)) ∧ w' = w := by
  go_enter Try.func29, Try.ntmps29
  go_wp2
  all_goals
    go_ret
    exact ⟨by simp [lp, *], rfl⟩
theorem days_calls (y m : Int) (w : World) :
    Calls Try.prog 25 #[.int .i64 y, .int .i64 m] w fun e w' => e = .returned (.int .i64 (dm y m)) ∧ w' = w := by
  by_cases hl : lp y = true
  · go_enter Try.func25, Try.ntmps25
    go_wp2_with (go_at_call 30; refine (leap_calls y _).mono ?_; rintro e w1 ⟨rfl, rfl⟩)
    all_goals
      go_ret
      refine ⟨?_, rfl⟩
      first | (simp [dm, *]; done) | (simp_all [dm]; done)
  · have hl' : lp y = false := by simpa using hl
    clear hl
    go_enter Try.func25, Try.ntmps25
    go_wp2_with (go_at_call 30; refine (leap_calls y _).mono ?_; rintro e w1 ⟨rfl, rfl⟩)
    all_goals
      go_ret
      refine ⟨?_, rfl⟩
      first | (simp [dm, *]; done) | (simp_all [dm]; done)
theorem rdays_calls (y m : Int) (w : World) :
    Calls Try.prog 23 #[.int .i64 y, .int .i64 m] w fun e w' => e = .returned (.int .i64 (dm y m)) ∧ w' = w := by
  by_cases hl : lp y = true
  · go_enter Try.func23, Try.ntmps23
    go_wp2_with (go_at_call 29; refine (rleap_calls y _).mono ?_; rintro e w1 ⟨rfl, rfl⟩)
    all_goals
      go_ret
      refine ⟨?_, rfl⟩
      first | (simp [dm, *]; done) | (simp_all [dm]; done)
  · have hl' : lp y = false := by simpa using hl
    clear hl
    go_enter Try.func23, Try.ntmps23
    go_wp2_with (go_at_call 29; refine (rleap_calls y _).mono ?_; rintro e w1 ⟨rfl, rfl⟩)
    all_goals
      go_ret
      refine ⟨?_, rfl⟩
      first | (simp [dm, *]; done) | (simp_all [dm]; done)
theorem between_calls (lo v hi : Int) (w : World) :
    Calls Try.prog 26 #[.int .i64 lo, .int .i64 v, .int .i64 hi] w fun e w' => e = .returned (.bool (btw lo v hi)) ∧ w' = w := by
  go_enter Try.func26, Try.ntmps26
  go_wp2
  all_goals
    go_ret
    refine ⟨?_, rfl⟩
    first | (simp [btw, *]; done) | (simp [btw]; omega)

def stv (y m d h mi s z : Int) : Value := .agg #[.int .i64 y, .int .i64 m, .int .i64 d, .int .i64 h, .int .i64 mi, .int .i64 s, .int .i64 z]
end Go.Proofs.Ytdeegjhnomdepaa.st

