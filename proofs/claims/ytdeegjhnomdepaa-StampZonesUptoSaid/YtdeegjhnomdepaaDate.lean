/- Plain law of chapter 8: days and seconds. -/
import Derived.Test.YtdeegjhnomdepaaSt1
set_option linter.unusedVariables false
namespace Go.Proofs.Ytdeegjhnomdepaa.st

/-- Days ahead of a year, counted from 1900 on. -/
def unt (y : Int) : Int := 365 * (y - 1 - 1899) + (y - 1) / 4 - 474 - (y - 1) / 100 + 18 + (y - 1) / 400 - 4
def yr (y : Int) : Int := if lp y = true then 366 else 365
theorem lp_iff (y : Int) (h : 0 ≤ y) : lp y = true ↔ y % 4 = 0 ∧ (y % 100 ≠ 0 ∨ y % 400 = 0) := by
  simp only [lp, Int.tmod_eq_emod_of_nonneg h, Bool.and_eq_true, Bool.or_eq_true, beq_iff_eq, bne_iff_ne]
theorem unt_succ (y : Int) (h : 1 ≤ y) : unt (y + 1) = unt y + yr y := by
  unfold yr
  have hl := lp_iff y (by omega)
  by_cases h0 : lp y = true
  · rw [if_pos h0]
    have := hl.1 h0
    unfold unt
    omega
  · rw [if_neg h0]
    have : ¬ (y % 4 = 0 ∧ (y % 100 ≠ 0 ∨ y % 400 = 0)) := fun h => h0 (hl.2 h)
    unfold unt
    omega
/-- Days of a year ahead of a month. -/
def cum (y m : Int) : Int := if m ≤ 1 then 0 else if m = 2 then 31 else (if lp y = true then 1 else 0) +
  (if m = 3 then 59 else if m = 4 then 90 else if m = 5 then 120 else if m = 6 then 151 else if m = 7 then 181 else if m = 8 then 212 else if m = 9 then 243 else if m = 10 then 273 else if m = 11 then 304 else if m = 12 then 334 else 365)
theorem cum_succ (y m : Int) (h : 1 ≤ m ∧ m ≤ 12) : cum y (m + 1) = cum y m + dm y m := by
  have hn : m = 1 ∨ m = 2 ∨ m = 3 ∨ m = 4 ∨ m = 5 ∨ m = 6 ∨ m = 7 ∨ m = 8 ∨ m = 9 ∨ m = 10 ∨ m = 11 ∨ m = 12 := by omega
  rcases hn with rfl | rfl | rfl | rfl | rfl | rfl | rfl | rfl | rfl | rfl | rfl | rfl <;> by_cases hl : lp y = true <;> simp [cum, dm, hl]
theorem cum_one (y : Int) : cum y 1 = 0 := rfl
theorem cum_all (y : Int) : cum y 13 = yr y := by by_cases hl : lp y = true <;> simp [cum, yr, hl]
theorem cum_mono (y m : Int) (h1 : 1 ≤ m) : ∀ (k : Nat), m + k ≤ 13 → cum y m ≤ cum y (m + k) := by
  intro k
  induction k with
  | zero => intro _; simp
  | succ k ih =>
    intro h
    have h2 := ih (by omega)
    have h3 := cum_succ y (m + k) (by omega)
    have h4 := dm_range y (m + k)
    rw [show m + ((k + 1 : Nat) : Int) = m + k + 1 by omega]
    omega
theorem cum_le (y m m' : Int) (h1 : 1 ≤ m) (h : m ≤ m') (h2 : m' ≤ 13) : cum y m ≤ cum y m' := by
  have := cum_mono y m h1 (m' - m).toNat (by omega)
  rwa [show m + ((m' - m).toNat : Int) = m' by omega] at this
theorem unt_mono (y : Int) (h1 : 1 ≤ y) : ∀ k : Nat, unt y + 365 * k ≤ unt (y + k) := by
  intro k
  induction k with
  | zero => simp
  | succ k ih =>
    have h3 := unt_succ (y + k) (by omega)
    have h4 : 365 ≤ yr (y + k) := by unfold yr; split <;> omega
    rw [show y + ((k + 1 : Nat) : Int) = y + k + 1 by omega]
    omega
theorem unt_le (y y' : Int) (h1 : 1 ≤ y) (h : y ≤ y') : unt y + 365 * (y' - y) ≤ unt y' := by
  have := unt_mono y h1 (y' - y).toNat
  rw [show y + ((y' - y).toNat : Int) = y' by omega] at this
  omega
def dayNo (y m d : Int) : Int := unt y + cum y m + d - 1
/-- A day's place within its year. -/
theorem day_in (y m d : Int) (hm : 1 ≤ m ∧ m ≤ 12) (hd : 1 ≤ d ∧ d ≤ dm y m) : unt y ≤ dayNo y m d ∧ dayNo y m d < unt y + yr y := by
  have h1 := cum_le y 1 m (by omega) hm.1 (by omega)
  have h2 := cum_le y (m + 1) 13 (by omega) (by omega) (by omega)
  have h3 := cum_succ y m hm
  rw [cum_all] at h2
  rw [cum_one] at h1
  unfold dayNo
  omega
def Dt (y m d : Int) : Prop := 1 ≤ y ∧ (1 ≤ m ∧ m ≤ 12) ∧ (1 ≤ d ∧ d ≤ dm y m)
theorem day_lt {y m d y' m' d' : Int} (h : Dt y m d) (h' : Dt y' m' d') (hl : y < y' ∨ (y = y' ∧ (m < m' ∨ (m = m' ∧ d < d')))) : dayNo y m d < dayNo y' m' d' := by
  rcases hl with hl | ⟨rfl, hl | ⟨rfl, hl⟩⟩
  · have a := (day_in y m d h.2.1 h.2.2).2
    have b := (day_in y' m' d' h'.2.1 h'.2.2).1
    have c := unt_le (y + 1) y' (by have := h.1; omega) (by omega)
    rw [unt_succ y h.1] at c
    omega
  · have h3 := cum_succ y m h.2.1
    have h4 := cum_le y (m + 1) m' (by have := h.2.1; omega) (by omega) (by have := h'.2.1; omega)
    have := h.2.2
    have := h'.2.2
    unfold dayNo
    omega
  · unfold dayNo
    omega
def secs0 (y m d h mi s z : Int) : Int := 86400 * (dayNo y m d - 25567) + 3600 * h + 60 * mi + s - 60 * z
def secs (y m d h mi s z : Int) : Int := if Rt y m d h mi s z = true then secs0 y m d h mi s z else 0
theorem unt_1970 : unt 1970 = 25567 := by decide
theorem unt_1900 : unt 1900 = 0 := by decide
theorem unt_3000 : unt 3000 = 401767 := by decide
def key (y m d h mi s : Int) : Int := ((((y * 12 + m) * 31 + d) * 24 + h) * 60 + mi) * 60 + s
theorem dm_le (y m : Int) : dm y m ≤ 31 := (dm_range y m).2
/-- The order of stamps of one zone. -/
theorem order {y m d h mi s y' m' d' h' mi' s' z : Int} (r : Rt y m d h mi s z = true) (r' : Rt y' m' d' h' mi' s' z = true) :
    (key y m d h mi s < key y' m' d' h' mi' s' ↔ secs0 y m d h mi s z < secs0 y' m' d' h' mi' s' z) ∧
    ((y = y' ∧ m = m' ∧ d = d' ∧ h = h' ∧ mi = mi' ∧ s = s') ↔ secs0 y m d h mi s z = secs0 y' m' d' h' mi' s' z) := by
  rw [Rt_true] at r r'
  have D : Dt y m d := ⟨by omega, by omega, by omega⟩
  have D' : Dt y' m' d' := ⟨by omega, by omega, by omega⟩
  have e := dm_le y m
  have e' := dm_le y' m'
  unfold secs0 key
  by_cases h1 : y < y' ∨ (y = y' ∧ (m < m' ∨ (m = m' ∧ d < d')))
  · have := day_lt D D' h1
    refine ⟨⟨fun _ => by omega, fun _ => by omega⟩, ⟨fun _ => by omega, fun _ => by omega⟩⟩
  · by_cases h2 : y' < y ∨ (y' = y ∧ (m' < m ∨ (m' = m ∧ d' < d)))
    · have := day_lt D' D h2
      refine ⟨⟨fun _ => by omega, fun _ => by omega⟩, ⟨fun _ => by omega, fun _ => by omega⟩⟩
    · obtain ⟨rfl, rfl, rfl⟩ : y = y' ∧ m = m' ∧ d = d' := by omega
      refine ⟨⟨fun _ => by omega, fun _ => by omega⟩, ⟨fun _ => by omega, fun _ => ?_⟩⟩
      refine ⟨rfl, rfl, rfl, ?_⟩
      omega
end Go.Proofs.Ytdeegjhnomdepaa.st

