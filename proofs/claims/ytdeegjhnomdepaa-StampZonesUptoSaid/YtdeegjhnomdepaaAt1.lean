/- Plain law of chapter 8: what At tells is one stamp. -/
import Derived.Test.YtdeegjhnomdepaaDate
set_option linter.unusedVariables false
namespace Go.Proofs.Ytdeegjhnomdepaa.st

def inR (sec z : Int) : Prop := (-959 ≤ z ∧ z ≤ 959) ∧ -2208988800 ≤ sec + 60 * z ∧ sec + 60 * z < 32503680000
def AtV (sec z : Int) (v : Value) : Prop :=
  (¬ inR sec z ∧ v = .tuple #[stv 0 0 0 0 0 0 0, .bool false]) ∨ ∃ y m d h mi s, Rt y m d h mi s z = true ∧ secs0 y m d h mi s z = sec ∧ v = .tuple #[stv y m d h mi s z, .bool true]
theorem day_range {y m d : Int} (hy : 1900 ≤ y ∧ y ≤ 2999) (hm : 1 ≤ m ∧ m ≤ 12) (hd : 1 ≤ d ∧ d ≤ dm y m) : 0 ≤ dayNo y m d ∧ dayNo y m d < 401767 := by
  have h := day_in y m d hm hd
  have h1 := unt_le 1900 y (by omega) (by omega)
  have h2 := unt_le (y + 1) 3000 (by omega) (by omega)
  rw [unt_1900] at h1
  rw [unt_3000, unt_succ y (by omega)] at h2
  omega
theorem in_of {y m d h mi s z : Int} (r : Rt y m d h mi s z = true) : inR (secs0 y m d h mi s z) z := by
  rw [Rt_true] at r
  have := day_range r.1 r.2.1 r.2.2.1
  unfold inR secs0
  omega
theorem AtV_one {sec z : Int} {v v' : Value} (h : AtV sec z v) (h' : AtV sec z v') : v = v' := by
  rcases h with ⟨h1, rfl⟩ | ⟨y, m, d, a, b, c, r, e, rfl⟩ <;> rcases h' with ⟨h2, rfl⟩ | ⟨y', m', d', a', b', c', r', e', rfl⟩
  · rfl
  · exact absurd (e' ▸ in_of r') h1
  · exact absurd (e ▸ in_of r) h2
  · obtain ⟨rfl, rfl, rfl, rfl, rfl, rfl⟩ := (order r r').2.2 (e.trans e'.symm)
    rfl
/-- A day's number, split: year, month, day of the month. -/
theorem AtV_of {sec z y m n r : Int} (hz : -959 ≤ z ∧ z ≤ 959) (hy : 1900 ≤ y ∧ y ≤ 2999) (hm : 1 ≤ m ∧ m ≤ 12) (hn : 0 ≤ n ∧ n < dm y m) (hr : 0 ≤ r ∧ r < 86400) (he : sec + 60 * z = 86400 * (unt y + cum y m + n - 25567) + r) :
    AtV sec z (.tuple #[stv y m (n + 1) (r / 3600) (r / 60 % 60) (r % 60) z, .bool true]) := by
  refine .inr ⟨y, m, n + 1, r / 3600, r / 60 % 60, r % 60, ?_, ?_, rfl⟩
  · rw [Rt_true]
    refine ⟨hy, hm, by omega, by omega, by omega, by omega, hz⟩
  · unfold secs0 dayNo
    omega
end Go.Proofs.Ytdeegjhnomdepaa.st

