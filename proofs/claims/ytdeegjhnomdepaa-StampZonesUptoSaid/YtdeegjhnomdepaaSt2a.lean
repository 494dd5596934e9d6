/- Walks over chapter 8: whether a stamp may be: the first tests. -/
import Derived.Test.YtdeegjhnomdepaaSt1
set_option linter.unusedVariables false
set_option linter.unusedSimpArgs false
namespace Go.Proofs.Ytdeegjhnomdepaa.st
open Go.RowKit Go.Proofs.Ytdeegjhnomdepaa.b

set_option maxHeartbeats 16000000 in
theorem Right_no0 (y m d h mi s z : Int) (w : World)  (hb0 : btw 1900 y 2999 = false) :
    Calls Try.prog 20 #[stv y m d h mi s z] w fun e w' => e = .returned (.bool false) ∧ Below w.heap.size w w' := by
  unfold stv
  go_enter Try.func20, Try.ntmps20
  go_wp2
  go_quiet ((first | (go_at_call 26; exact Calls.quiet_of_same (between_calls _ _ _ _)) | (go_at_call 25; exact Calls.quiet_of_same (days_calls _ _ _))))
  go_wp2
  go_ret
  exact ⟨rfl, ((Below.refl _ _).alloc (Nat.le_refl _) _).trans (Dr.below ⟨_, rfl⟩ _)⟩
set_option maxHeartbeats 16000000 in
theorem Right_no1 (y m d h mi s z : Int) (w : World) (hb0 : btw 1900 y 2999 = true) (hb1 : btw 1 m 12 = false) :
    Calls Try.prog 20 #[stv y m d h mi s z] w fun e w' => e = .returned (.bool false) ∧ Below w.heap.size w w' := by
  unfold stv
  go_enter Try.func20, Try.ntmps20
  go_wp2
  go_quiet ((first | (go_at_call 26; exact Calls.quiet_of_same (between_calls _ _ _ _)) | (go_at_call 25; exact Calls.quiet_of_same (days_calls _ _ _))))
  go_wp2
  go_ret
  exact ⟨rfl, ((Below.refl _ _).alloc (Nat.le_refl _) _).trans (Dr.below ⟨_, rfl⟩ _)⟩
set_option maxHeartbeats 16000000 in
theorem Right_no2 (y m d h mi s z : Int) (w : World) (hb0 : btw 1900 y 2999 = true) (hb1 : btw 1 m 12 = true) (hb2 : btw 1 d (dm y m) = false) :
    Calls Try.prog 20 #[stv y m d h mi s z] w fun e w' => e = .returned (.bool false) ∧ Below w.heap.size w w' := by
  unfold stv
  go_enter Try.func20, Try.ntmps20
  go_wp2
  go_quiet ((first | (go_at_call 26; exact Calls.quiet_of_same (between_calls _ _ _ _)) | (go_at_call 25; exact Calls.quiet_of_same (days_calls _ _ _))))
  go_wp2
  go_ret
  exact ⟨rfl, ((Below.refl _ _).alloc (Nat.le_refl _) _).trans (Dr.below ⟨_, rfl⟩ _)⟩
end Go.Proofs.Ytdeegjhnomdepaa.st

