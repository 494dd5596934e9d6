/- Walks over chapter 8: whether a stamp may be: the other tests. -/
import Derived.Test.YtdeegjhnomdepaaSt1
set_option linter.unusedVariables false
set_option linter.unusedSimpArgs false
namespace Go.Proofs.Ytdeegjhnomdepaa.st
open Go.RowKit Go.Proofs.Ytdeegjhnomdepaa.b

set_option maxHeartbeats 16000000 in
theorem Right_no3 (y m d h mi s z : Int) (w : World) (hb0 : btw 1900 y 2999 = true) (hb1 : btw 1 m 12 = true) (hb2 : btw 1 d (dm y m) = true) (hb3 : btw 0 h 23 = false) :
    Calls Try.prog 20 #[stv y m d h mi s z] w fun e w' => e = .returned (.bool false) ∧ Below w.heap.size w w' := by
  unfold stv
  go_enter Try.func20, Try.ntmps20
  go_wp2
  go_quiet ((first | (go_at_call 26; exact Calls.quiet_of_same (between_calls _ _ _ _)) | (go_at_call 25; exact Calls.quiet_of_same (days_calls _ _ _))))
  go_wp2
  go_ret
  exact ⟨rfl, ((Below.refl _ _).alloc (Nat.le_refl _) _).trans (Dr.below ⟨_, rfl⟩ _)⟩
set_option maxHeartbeats 16000000 in
theorem Right_no4 (y m d h mi s z : Int) (w : World) (hb0 : btw 1900 y 2999 = true) (hb1 : btw 1 m 12 = true) (hb2 : btw 1 d (dm y m) = true) (hb3 : btw 0 h 23 = true) (hb4 : btw 0 mi 59 = false) :
    Calls Try.prog 20 #[stv y m d h mi s z] w fun e w' => e = .returned (.bool false) ∧ Below w.heap.size w w' := by
  unfold stv
  go_enter Try.func20, Try.ntmps20
  go_wp2
  go_quiet ((first | (go_at_call 26; exact Calls.quiet_of_same (between_calls _ _ _ _)) | (go_at_call 25; exact Calls.quiet_of_same (days_calls _ _ _))))
  go_wp2
  go_ret
  exact ⟨rfl, ((Below.refl _ _).alloc (Nat.le_refl _) _).trans (Dr.below ⟨_, rfl⟩ _)⟩
set_option maxHeartbeats 16000000 in
theorem Right_no5 (y m d h mi s z : Int) (w : World) (hb0 : btw 1900 y 2999 = true) (hb1 : btw 1 m 12 = true) (hb2 : btw 1 d (dm y m) = true) (hb3 : btw 0 h 23 = true) (hb4 : btw 0 mi 59 = true) (hb5 : btw 0 s 59 = false) :
    Calls Try.prog 20 #[stv y m d h mi s z] w fun e w' => e = .returned (.bool false) ∧ Below w.heap.size w w' := by
  unfold stv
  go_enter Try.func20, Try.ntmps20
  go_wp2
  go_quiet ((first | (go_at_call 26; exact Calls.quiet_of_same (between_calls _ _ _ _)) | (go_at_call 25; exact Calls.quiet_of_same (days_calls _ _ _))))
  go_wp2
  go_ret
  exact ⟨rfl, ((Below.refl _ _).alloc (Nat.le_refl _) _).trans (Dr.below ⟨_, rfl⟩ _)⟩
set_option maxHeartbeats 16000000 in
theorem Right_no6 (y m d h mi s z : Int) (w : World) (hb0 : btw 1900 y 2999 = true) (hb1 : btw 1 m 12 = true) (hb2 : btw 1 d (dm y m) = true) (hb3 : btw 0 h 23 = true) (hb4 : btw 0 mi 59 = true) (hb5 : btw 0 s 59 = true) (hb6 : btw (-959) z 959 = false) :
    Calls Try.prog 20 #[stv y m d h mi s z] w fun e w' => e = .returned (.bool false) ∧ Below w.heap.size w w' := by
  unfold stv
  go_enter Try.func20, Try.ntmps20
  go_wp2
  go_quiet ((first | (go_at_call 26; exact Calls.quiet_of_same (between_calls _ _ _ _)) | (go_at_call 25; exact Calls.quiet_of_same (days_calls _ _ _))))
  go_wp2
  go_ret
  exact ⟨rfl, ((Below.refl _ _).alloc (Nat.le_refl _) _).trans (Dr.below ⟨_, rfl⟩ _)⟩
set_option maxHeartbeats 16000000 in
theorem Right_yes (y m d h mi s z : Int) (w : World) (hb0 : btw 1900 y 2999 = true) (hb1 : btw 1 m 12 = true) (hb2 : btw 1 d (dm y m) = true) (hb3 : btw 0 h 23 = true) (hb4 : btw 0 mi 59 = true) (hb5 : btw 0 s 59 = true) (hb6 : btw (-959) z 959 = true) :
    Calls Try.prog 20 #[stv y m d h mi s z] w fun e w' => e = .returned (.bool true) ∧ Below w.heap.size w w' := by
  unfold stv
  go_enter Try.func20, Try.ntmps20
  go_wp2
  go_quiet ((first | (go_at_call 26; exact Calls.quiet_of_same (between_calls _ _ _ _)) | (go_at_call 25; exact Calls.quiet_of_same (days_calls _ _ _))))
  go_wp2
  go_ret
  exact ⟨rfl, ((Below.refl _ _).alloc (Nat.le_refl _) _).trans (Dr.below ⟨_, rfl⟩ _)⟩
end Go.Proofs.Ytdeegjhnomdepaa.st

