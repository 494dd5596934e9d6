/- Walks over chapter 8: seconds of a stamp. -/
import Derived.Test.YtdeegjhnomdepaaSt2
import Derived.Test.YtdeegjhnomdepaaDate
import Derived.Test.YtdeegjhnomdepaaBase2
set_option linter.unusedVariables false
set_option linter.unusedSimpArgs false
namespace Go.Proofs.Ytdeegjhnomdepaa.st
open Go.RowKit Go.Proofs.Ytdeegjhnomdepaa.b

theorem until_calls (y : Int) (w : World) (h : 1 ≤ y ∧ y ≤ 100000) :
    Calls Try.prog 24 #[.int .i64 y] w fun e w' => e = .returned (.int .i64 (unt y)) ∧ w' = w := by
  have d4 : (y - 1).tdiv 4 = (y - 1) / 4 := Int.tdiv_eq_ediv_of_nonneg (by omega)
  have d100 : (y - 1).tdiv 100 = (y - 1) / 100 := Int.tdiv_eq_ediv_of_nonneg (by omega)
  have d400 : (y - 1).tdiv 400 = (y - 1) / 400 := Int.tdiv_eq_ediv_of_nonneg (by omega)
  go_enter Try.func24, Try.ntmps24
  go_wp2
  go_ret
  exact ⟨rfl, rfl⟩
theorem until70_calls (w : World) : Calls Try.prog 24 #[.int .i64 1970] w fun e w' => e = .returned (.int .i64 25567) ∧ w' = w := by
  rw [← unt_1970]; exact until_calls 1970 w (by omega)
set_option maxHeartbeats 2000000 in
theorem year_calls (y : Int) (w : World) :
    Calls Try.prog 27 #[.int .i64 y] w fun e w' => e = .returned (.int .i64 (yr y)) ∧ w' = w := by
  by_cases hl : lp y = true
  · go_enter Try.func27, Try.ntmps27
    go_wp2_with (go_at_call 29; refine (rleap_calls y _).mono ?_; rintro e w1 ⟨rfl, rfl⟩)
    go_ret
    exact ⟨by simp [yr, hl], rfl⟩
  · have hl' : lp y = false := by simpa using hl
    clear hl
    go_enter Try.func27, Try.ntmps27
    go_wp2_with (go_at_call 29; refine (rleap_calls y _).mono ?_; rintro e w1 ⟨rfl, rfl⟩)
    go_ret
    exact ⟨by simp [yr, hl'], rfl⟩

theorem st_cells {w : World} {k : Nat} {y m d h i s z : Int} {t : TypeId} (hb : w.heap[k]? = some (.cells #[.int .i64 y, .int .i64 m, .int .i64 d, .int .i64 h, .int .i64 i, .int .i64 s, .int .i64 z] t (0, 0))) :
    w.cell? ⟨k, 0, none⟩ = some (.int .i64 y) ∧ w.cell? ⟨k, 1, none⟩ = some (.int .i64 m) ∧ w.cell? ⟨k, 2, none⟩ = some (.int .i64 d) ∧ w.cell? ⟨k, 3, none⟩ = some (.int .i64 h) ∧ w.cell? ⟨k, 4, none⟩ = some (.int .i64 i) ∧ w.cell? ⟨k, 5, none⟩ = some (.int .i64 s) ∧ w.cell? ⟨k, 6, none⟩ = some (.int .i64 z) := by
  simp [World.cell?, hb]
set_option maxHeartbeats 4000000 in
theorem Seconds_calls (y m d h mi s z : Int) (w : World) :
    Calls Try.prog 12 #[stv y m d h mi s z] w fun e w' => e = .returned (.int .i64 (secs y m d h mi s z)) ∧ Below w.heap.size w w' := by
  have hz := heap_alloc_new w (.cells #[.int .i64 y, .int .i64 m, .int .i64 d, .int .i64 h, .int .i64 mi, .int .i64 s, .int .i64 z] 23)
  have KZ := K.mk hz
  have KB := K.mk ((Below.refl _ w).alloc (Nat.le_refl _) (.cells #[.int .i64 y, .int .i64 m, .int .i64 d, .int .i64 h, .int .i64 mi, .int .i64 s, .int .i64 z] 23))
  have hsz : (w.alloc (.cells #[.int .i64 y, .int .i64 m, .int .i64 d, .int .i64 h, .int .i64 mi, .int .i64 s, .int .i64 z] 23)).heap.size = w.heap.size + 1 := by simp
  clear hz
  have KS : K (secs y m d h mi s z = if Rt y m d h mi s z = true then secs0 y m d h mi s z else 0) := ⟨rfl⟩
  have KR : K (Rt y m d h mi s z = true → _) := ⟨Rt_true.1⟩
  unfold stv
  go_enter Try.func12, Try.ntmps12
  go_wp2_with fail
  generalize w.alloc _ = w1 at KZ KB hsz ⊢
  refine (Right_calls y m d h mi s z w1).mono ?_
  rintro e w2 ⟨rfl, hB⟩
  have KZ2 := K.mk ((hB.block w.heap.size (by omega)).trans KZ.out)
  have KB2 := K.mk (KB.out.trans (hB.mono (by omega)))
  clear hB hsz
  generalize Rt y m d h mi s z = r at KS KR ⊢
  cases r with
  | false =>
    go_wp2
    go_ret
    exact ⟨by rw [KS.out]; rfl, KB2.out⟩
  | true =>
    obtain ⟨r1, r2, r3, r4, r5, r6, r7⟩ := KR.out rfl
    have hdm := dm_range y m
    obtain ⟨c0, c1, c2, c3, c4, c5, c6⟩ := st_cells KZ2.out
    have u1 := unt_le 1900 y (by omega) (by omega)
    have u2 := unt_le y 3000 (by omega) (by omega)
    rw [unt_1900] at u1
    rw [unt_3000] at u2
    go_wp2_with fail
    go_quiet ((go_at_call 24; first | with_reducible exact Calls.quiet_of_same (until70_calls _) | exact Calls.quiet_of_same (until_calls _ _ (by omega))))
    go_wp2
    go_loop [3, 4] (fun v3 v4 => ∃ k : Int, (1 ≤ k ∧ k ≤ m) ∧ v4 = .int .i64 k ∧ v3 = .int .i64 (unt y - 25567 + d - 1 + cum y k)) (fun _ v4 => (m - intOf v4).toNat)
    case atStart => exact ⟨1, by omega, rfl, by rw [cum_one]; simp⟩
    case round =>
      obtain ⟨k, hk, rfl, rfl⟩ := hrel
      have k0 := cum_le y 1 k (by omega) (by omega) (by omega)
      have k1 := cum_le y k 13 (by omega) (by omega) (by omega)
      rw [cum_one] at k0
      rw [cum_all] at k1
      have ky : yr y ≤ 366 := by unfold yr; split <;> omega
      by_cases h1 : k < m
      · have ks := cum_succ y k (by omega)
        have hdk := dm_range y k
        go_wp2_with (go_at_call 25; refine (days_calls _ _ _).mono ?_; rintro e w3 ⟨rfl, rfl⟩)
        go_round
        case rel =>
          exact ⟨k + 1, by omega, by go_num, by rw [ks]; go_num⟩
        case measure => simp [intOf]; omega
      · obtain rfl : k = m := by omega
        have KS2 : K (secs y k d h mi s z = 86400 * (unt y + cum y k + d - 1 - 25567) + 3600 * h + 60 * mi + s - 60 * z) := ⟨KS.out⟩
        clear KS
        go_wp2
        go_ret
        exact ⟨by rw [KS2.out]; simp; omega, (KB2.out.trans (Dr.below ⟨_, rfl⟩ _))⟩
end Go.Proofs.Ytdeegjhnomdepaa.st

