/- Walks over chapter 8: the reference's test of a stamp, a part. -/
import Derived.Test.YtdeegjhnomdepaaSt1
set_option linter.unusedVariables false
set_option linter.unusedSimpArgs false
namespace Go.Proofs.Ytdeegjhnomdepaa.st
open Go.RowKit Go.Proofs.Ytdeegjhnomdepaa.b

set_option maxHeartbeats 16000000 in
theorem rRight_2 (y m d h mi s z : Int) (w : World) (b0 : 1900 ≤ y) (b1 : y ≤ 2999) (b2 : decide (1 ≤ m) = false) :
    Calls Try.prog 10 #[stv y m d h mi s z] w fun e w' => e = .returned (.bool false) ∧ Below w.heap.size w w' := by
  unfold stv
  go_enter Try.func10, Try.ntmps10
  go_wp2
  go_quiet ((go_at_call 23; exact Calls.quiet_of_same (rdays_calls _ _ _)))
  go_wp2
  go_ret
  exact ⟨rfl, ((Below.refl _ _).alloc (Nat.le_refl _) _).trans (Dr.below ⟨_, rfl⟩ _)⟩
set_option maxHeartbeats 16000000 in
theorem rRight_6 (y m d h mi s z : Int) (w : World) (b0 : 1900 ≤ y) (b1 : y ≤ 2999) (b2 : 1 ≤ m) (b3 : m ≤ 12) (b4 : 1 ≤ d) (b5 : d ≤ dm y m) (b6 : decide (0 ≤ h) = false) :
    Calls Try.prog 10 #[stv y m d h mi s z] w fun e w' => e = .returned (.bool false) ∧ Below w.heap.size w w' := by
  unfold stv
  go_enter Try.func10, Try.ntmps10
  go_wp2
  go_quiet ((go_at_call 23; exact Calls.quiet_of_same (rdays_calls _ _ _)))
  go_wp2
  go_ret
  exact ⟨rfl, ((Below.refl _ _).alloc (Nat.le_refl _) _).trans (Dr.below ⟨_, rfl⟩ _)⟩
set_option maxHeartbeats 16000000 in
theorem rRight_10 (y m d h mi s z : Int) (w : World) (b0 : 1900 ≤ y) (b1 : y ≤ 2999) (b2 : 1 ≤ m) (b3 : m ≤ 12) (b4 : 1 ≤ d) (b5 : d ≤ dm y m) (b6 : 0 ≤ h) (b7 : h ≤ 23) (b8 : 0 ≤ mi) (b9 : mi ≤ 59) (b10 : decide (0 ≤ s) = false) :
    Calls Try.prog 10 #[stv y m d h mi s z] w fun e w' => e = .returned (.bool false) ∧ Below w.heap.size w w' := by
  unfold stv
  go_enter Try.func10, Try.ntmps10
  go_wp2
  go_quiet ((go_at_call 23; exact Calls.quiet_of_same (rdays_calls _ _ _)))
  go_wp2
  go_ret
  exact ⟨rfl, ((Below.refl _ _).alloc (Nat.le_refl _) _).trans (Dr.below ⟨_, rfl⟩ _)⟩
set_option maxHeartbeats 16000000 in
theorem rRight_14 (y m d h mi s z : Int) (w : World) (b0 : 1900 ≤ y) (b1 : y ≤ 2999) (b2 : 1 ≤ m) (b3 : m ≤ 12) (b4 : 1 ≤ d) (b5 : d ≤ dm y m) (b6 : 0 ≤ h) (b7 : h ≤ 23) (b8 : 0 ≤ mi) (b9 : mi ≤ 59) (b10 : 0 ≤ s) (b11 : s ≤ 59) (b12 : -959 ≤ z) (b13 : z ≤ 959) :
    Calls Try.prog 10 #[stv y m d h mi s z] w fun e w' => e = .returned (.bool true) ∧ Below w.heap.size w w' := by
  unfold stv
  go_enter Try.func10, Try.ntmps10
  go_wp2
  go_quiet ((go_at_call 23; exact Calls.quiet_of_same (rdays_calls _ _ _)))
  go_wp2
  go_ret
  exact ⟨rfl, ((Below.refl _ _).alloc (Nat.le_refl _) _).trans (Dr.below ⟨_, rfl⟩ _)⟩
end Go.Proofs.Ytdeegjhnomdepaa.st

