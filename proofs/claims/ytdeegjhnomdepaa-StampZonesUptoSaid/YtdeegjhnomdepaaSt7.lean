/- Walks over chapter 8: the reference's digits and months. -/
import Derived.Test.YtdeegjhnomdepaaSt5
set_option linter.unusedVariables false
set_option linter.unusedSimpArgs false
namespace Go.Proofs.Ytdeegjhnomdepaa.st
open Go.RowKit Go.Proofs.Ytdeegjhnomdepaa.b

def twoV (a b : UInt8) : Int := match digs [a, b] 0 with | some n => (n : Int) | none => -1
theorem twoV_no (a b : UInt8) (h : ¬ ((48 ≤ a.toNat ∧ a.toNat ≤ 57) ∧ (48 ≤ b.toNat ∧ b.toNat ≤ 57))) : twoV a b = -1 := by
  by_cases ha : 48 ≤ a.toNat ∧ a.toNat ≤ 57
  · have hb : ¬ (48 ≤ b.toNat ∧ b.toNat ≤ 57) := fun hb => h ⟨ha, hb⟩
    simp [twoV, digs, hb]
  · simp [twoV, digs, ha]
theorem twoV_yes (a b : UInt8) (ha : 48 ≤ a.toNat ∧ a.toNat ≤ 57) (hb : 48 ≤ b.toNat ∧ b.toNat ≤ 57) : twoV a b = 10 * ((a.toNat : Int) - 48) + ((b.toNat : Int) - 48) := by
  simp [twoV, digs, ha, hb]
  omega
set_option maxHeartbeats 2000000 in
theorem two_calls (a b : UInt8) (w : World) :
    Calls Try.prog 21 #[str [a, b]] w fun e w' => e = .returned (.int .i64 (twoV a b)) ∧ Dr w w' := by
  have e0 : ∀ h, (⟨#[a, b]⟩ : ByteArray)[0]'h = a := fun _ => rfl
  have e1 : ∀ h, (⟨#[a, b]⟩ : ByteArray)[1]'h = b := fun _ => rfl
  unfold str
  by_cases a1 : 48 ≤ a.toNat
  case neg =>
    rw [twoV_no a b (by omega)]
    have x1 : ((a.toNat : Int) < 48) := by omega
    go_enter Try.func21, Try.ntmps21
    go_wp2
    go_ret
    exact ⟨rfl, Dr.refl _⟩
  have x1 : ¬ ((a.toNat : Int) < 48) := by omega
  by_cases a2 : a.toNat ≤ 57
  case neg =>
    rw [twoV_no a b (by omega)]
    have x2 : ((57 : Int) < a.toNat) := by omega
    go_enter Try.func21, Try.ntmps21
    go_wp2
    go_ret
    exact ⟨rfl, Dr.refl _⟩
  have x2 : ¬ ((57 : Int) < a.toNat) := by omega
  by_cases a3 : 48 ≤ b.toNat
  case neg =>
    rw [twoV_no a b (by omega)]
    have x3 : ((b.toNat : Int) < 48) := by omega
    go_enter Try.func21, Try.ntmps21
    go_wp2
    go_ret
    exact ⟨rfl, Dr.refl _⟩
  have x3 : ¬ ((b.toNat : Int) < 48) := by omega
  by_cases a4 : b.toNat ≤ 57
  case neg =>
    rw [twoV_no a b (by omega)]
    have x4 : ((57 : Int) < b.toNat) := by omega
    go_enter Try.func21, Try.ntmps21
    go_wp2
    go_ret
    exact ⟨rfl, Dr.refl _⟩
  have x4 : ¬ ((57 : Int) < b.toNat) := by omega
  rw [twoV_yes a b ⟨a1, a2⟩ ⟨a3, a4⟩]
  have S1 := IntWalk.u8_in ((a.toNat : Int) - 48) (by omega)
  have S2 := IntWalk.u8_in ((b.toNat : Int) - 48) (by omega)
  have S3 := IntWalk.i64_in ((a.toNat : Int) - 48) (by omega)
  have S4 := IntWalk.i64_in ((b.toNat : Int) - 48) (by omega)
  have S5 := IntWalk.i64_in (10 * ((a.toNat : Int) - 48)) (by omega)
  have S6 := IntWalk.i64_in (10 * ((a.toNat : Int) - 48) + ((b.toNat : Int) - 48)) (by omega)
  go_enter Try.func21, Try.ntmps21
  go_wp2
  go_quiet (fail)
  go_wp2
  go_ret
  exact ⟨rfl, by repeat' (first | exact Dr.refl _ | apply Dr.step)⟩

def m36 : List UInt8 := "JanFebMarAprMayJunJulAugSepOctNovDec".toUTF8.data.toList
theorem rmonth_calls (n : Nat) (h1 : 1 ≤ n) (h2 : n ≤ 12) (w : World) :
    Calls Try.prog 22 #[.int .i64 (n : Int)] w fun e w' => e = .returned (str (mons.getD (n - 1) [])) ∧ w' = w := by
  have hn : n = 1 ∨ n = 2 ∨ n = 3 ∨ n = 4 ∨ n = 5 ∨ n = 6 ∨ n = 7 ∨ n = 8 ∨ n = 9 ∨ n = 10 ∨ n = 11 ∨ n = 12 := by omega
  rcases hn with rfl | rfl | rfl | rfl | rfl | rfl | rfl | rfl | rfl | rfl | rfl | rfl
  all_goals
    go_enter Try.func22, Try.ntmps22
    go_wp2
    go_ret
    exact ⟨by rfl, rfl⟩
end Go.Proofs.Ytdeegjhnomdepaa.st

