/- Walks over chapter 8: the stamp of some seconds. -/
import Derived.Test.YtdeegjhnomdepaaStQ
import Derived.Test.YtdeegjhnomdepaaSt9
import Derived.Test.YtdeegjhnomdepaaAt1
set_option linter.unusedVariables false
set_option linter.unusedSimpArgs false
namespace Go.Proofs.Ytdeegjhnomdepaa.st
open Go.RowKit Go.Proofs.Ytdeegjhnomdepaa.b

theorem until30_calls (w : World) : Calls Try.prog 24 #[.int .i64 3000] w fun e w' => e = .returned (.int .i64 401767) ∧ w' = w := by
  rw [← unt_3000]; exact until_calls 3000 w (by omega)
set_option maxHeartbeats 4000000 in
theorem At_zone (sec z : Int) (w : World) (hz : btw (-959) z 959 = false) :
    Calls Try.prog 13 #[.int .i64 sec, .int .i64 z] w fun e w' => ∃ v, e = .returned v ∧ AtV sec z v ∧ Below w.heap.size w w' := by
  have hA : ¬ inR sec z := fun h => by have := btw_true.2 h.1; rw [hz] at this; cases this
  have KA := K.mk hA
  clear hA
  have KB := K.mk ((Below.refl _ w).alloc (Nat.le_refl _) (.cells #[.int .i64 0, .int .i64 0, .int .i64 0, .int .i64 0, .int .i64 0, .int .i64 0, .int .i64 0] 23))
  have KZ := K.mk (heap_alloc_new w (.cells #[.int .i64 0, .int .i64 0, .int .i64 0, .int .i64 0, .int .i64 0, .int .i64 0, .int .i64 0] 23))
  go_enter Try.func13, Try.ntmps13
  go_wp2_with (first | (go_at_call 24; refine Calls.mono (by first | with_reducible exact until70_calls _ | with_reducible exact until30_calls _) ?_; rintro e w1 ⟨rfl, rfl⟩) | (go_at_call 26; refine (between_calls _ _ _ _).mono ?_; rintro e w1 ⟨rfl, rfl⟩))
  try simp only [Exit.inBlock, Exit.then]
  exact bodyPost_ret (results_row_tmp rfl _ _ w.heap.size _ _ _ _ rfl KZ.out Try.underlying23 rfl rfl) rfl ⟨_, rfl, .inl ⟨KA.out, rfl⟩, KB.out⟩
set_option maxHeartbeats 4000000 in
theorem At_low (sec z : Int) (w : World) (hz : btw (-959) z 959 = true) (h1 : sec < -2209075200) :
    Calls Try.prog 13 #[.int .i64 sec, .int .i64 z] w fun e w' => ∃ v, e = .returned v ∧ AtV sec z v ∧ Below w.heap.size w w' := by
  have hA : ¬ inR sec z := fun h => by have := h.1; have := h.2; omega
  have KA := K.mk hA
  clear hA
  have KB := K.mk ((Below.refl _ w).alloc (Nat.le_refl _) (.cells #[.int .i64 0, .int .i64 0, .int .i64 0, .int .i64 0, .int .i64 0, .int .i64 0, .int .i64 0] 23))
  have KZ := K.mk (heap_alloc_new w (.cells #[.int .i64 0, .int .i64 0, .int .i64 0, .int .i64 0, .int .i64 0, .int .i64 0, .int .i64 0] 23))
  go_enter Try.func13, Try.ntmps13
  go_wp2_with (first | (go_at_call 24; refine Calls.mono (by first | with_reducible exact until70_calls _ | with_reducible exact until30_calls _) ?_; rintro e w1 ⟨rfl, rfl⟩) | (go_at_call 26; refine (between_calls _ _ _ _).mono ?_; rintro e w1 ⟨rfl, rfl⟩))
  try simp only [Exit.inBlock, Exit.then]
  exact bodyPost_ret (results_row_tmp rfl _ _ w.heap.size _ _ _ _ rfl KZ.out Try.underlying23 rfl rfl) rfl ⟨_, rfl, .inl ⟨KA.out, rfl⟩, KB.out⟩
set_option maxHeartbeats 4000000 in
theorem At_high (sec z : Int) (w : World) (hz : btw (-959) z 959 = true) (h1 : ¬ (sec < -2209075200)) (h2 : 32503766400 < sec) :
    Calls Try.prog 13 #[.int .i64 sec, .int .i64 z] w fun e w' => ∃ v, e = .returned v ∧ AtV sec z v ∧ Below w.heap.size w w' := by
  have hA : ¬ inR sec z := fun h => by have := h.1; have := h.2; omega
  have KA := K.mk hA
  clear hA
  have KB := K.mk ((Below.refl _ w).alloc (Nat.le_refl _) (.cells #[.int .i64 0, .int .i64 0, .int .i64 0, .int .i64 0, .int .i64 0, .int .i64 0, .int .i64 0] 23))
  have KZ := K.mk (heap_alloc_new w (.cells #[.int .i64 0, .int .i64 0, .int .i64 0, .int .i64 0, .int .i64 0, .int .i64 0, .int .i64 0] 23))
  go_enter Try.func13, Try.ntmps13
  go_wp2_with (first | (go_at_call 24; refine Calls.mono (by first | with_reducible exact until70_calls _ | with_reducible exact until30_calls _) ?_; rintro e w1 ⟨rfl, rfl⟩) | (go_at_call 26; refine (between_calls _ _ _ _).mono ?_; rintro e w1 ⟨rfl, rfl⟩))
  try simp only [Exit.inBlock, Exit.then]
  exact bodyPost_ret (results_row_tmp rfl _ _ w.heap.size _ _ _ _ rfl KZ.out Try.underlying23 rfl rfl) rfl ⟨_, rfl, .inl ⟨KA.out, rfl⟩, KB.out⟩
set_option maxHeartbeats 4000000 in
theorem At_before (sec z : Int) (w : World) (h0 : -959 ≤ z ∧ z ≤ 959) (hz : btw (-959) z 959 = true) (h1 : -2209075200 ≤ sec) (h2 : sec ≤ 32503766400) (h3 : sec + 60 * z < -2208988800) :
    Calls Try.prog 13 #[.int .i64 sec, .int .i64 z] w fun e w' => ∃ v, e = .returned v ∧ AtV sec z v ∧ Below w.heap.size w w' := by
  have hA : ¬ inR sec z := fun h => by have := h.2; omega
  have KA := K.mk hA
  clear hA
  have KB := K.mk ((Below.refl _ w).alloc (Nat.le_refl _) (.cells #[.int .i64 0, .int .i64 0, .int .i64 0, .int .i64 0, .int .i64 0, .int .i64 0, .int .i64 0] 23))
  have KZ := K.mk (heap_alloc_new w (.cells #[.int .i64 0, .int .i64 0, .int .i64 0, .int .i64 0, .int .i64 0, .int .i64 0, .int .i64 0] 23))
  go_enter Try.func13, Try.ntmps13
  go_wp2_with (first | (go_at_call 24; refine Calls.mono (by first | with_reducible exact until70_calls _ | with_reducible exact until30_calls _) ?_; rintro e w1 ⟨rfl, rfl⟩) | (go_at_call 26; refine (between_calls _ _ _ _).mono ?_; rintro e w1 ⟨rfl, rfl⟩))
  try simp only [Exit.inBlock, Exit.then]
  exact bodyPost_ret (results_row_tmp rfl _ _ w.heap.size _ _ _ _ rfl KZ.out Try.underlying23 rfl rfl) rfl ⟨_, rfl, .inl ⟨KA.out, rfl⟩, KB.out⟩
set_option maxHeartbeats 4000000 in
theorem At_behind (sec z : Int) (w : World) (h0 : -959 ≤ z ∧ z ≤ 959) (hz : btw (-959) z 959 = true) (h1 : -2209075200 ≤ sec) (h2 : sec ≤ 32503766400) (h3 : -2208988800 ≤ sec + 60 * z) (h4 : 32503680000 ≤ sec + 60 * z) :
    Calls Try.prog 13 #[.int .i64 sec, .int .i64 z] w fun e w' => ∃ v, e = .returned v ∧ AtV sec z v ∧ Below w.heap.size w w' := by
  have hA : ¬ inR sec z := fun h => by have := h.2; omega
  have KA := K.mk hA
  clear hA
  have KB := K.mk ((Below.refl _ w).alloc (Nat.le_refl _) (.cells #[.int .i64 0, .int .i64 0, .int .i64 0, .int .i64 0, .int .i64 0, .int .i64 0, .int .i64 0] 23))
  have KZ := K.mk (heap_alloc_new w (.cells #[.int .i64 0, .int .i64 0, .int .i64 0, .int .i64 0, .int .i64 0, .int .i64 0, .int .i64 0] 23))
  go_enter Try.func13, Try.ntmps13
  go_wp2_with (first | (go_at_call 24; refine Calls.mono (by first | with_reducible exact until70_calls _ | with_reducible exact until30_calls _) ?_; rintro e w1 ⟨rfl, rfl⟩) | (go_at_call 26; refine (between_calls _ _ _ _).mono ?_; rintro e w1 ⟨rfl, rfl⟩))
  try simp only [Exit.inBlock, Exit.then]
  exact bodyPost_ret (results_row_tmp rfl _ _ w.heap.size _ _ _ _ rfl KZ.out Try.underlying23 rfl rfl) rfl ⟨_, rfl, .inl ⟨KA.out, rfl⟩, KB.out⟩

set_option maxHeartbeats 8000000 in
theorem At_there (sec z : Int) (w : World) (h0 : -959 ≤ z ∧ z ≤ 959) (hz : btw (-959) z 959 = true) (h1 : -2209075200 ≤ sec) (h2 : sec ≤ 32503766400) (h3 : -2208988800 ≤ sec + 60 * z) (h4 : sec + 60 * z < 32503680000) :
    Calls Try.prog 13 #[.int .i64 sec, .int .i64 z] w fun e w' => ∃ v, e = .returned v ∧ AtV sec z v ∧ Below w.heap.size w w' := by
  have q1 : (sec + 60 * z + 2208988800).tdiv 86400 = (sec + 60 * z + 2208988800) / 86400 := Int.tdiv_eq_ediv_of_nonneg (by omega)
  obtain ⟨n, hn⟩ : ∃ n, n = (sec + 60 * z + 2208988800) / 86400 := ⟨_, rfl⟩
  obtain ⟨r, hr⟩ : ∃ r, r = sec + 60 * z + 2208988800 - 86400 * n := ⟨_, rfl⟩
  have d1 : decide (sec < -2209075200) = false := by rw [decide_eq_false_iff_not]; omega
  have d2 : decide (32503766400 < sec) = false := by rw [decide_eq_false_iff_not]; omega
  have d3 : decide (sec + 60 * z < -2208988800) = false := by rw [decide_eq_false_iff_not]; omega
  have d4 : decide (32503680000 ≤ sec + 60 * z) = false := by rw [decide_eq_false_iff_not]; omega
  go_enter Try.func13, Try.ntmps13
  go_wp2_with (first | (go_at_call 24; refine Calls.mono (by first | with_reducible exact until70_calls _ | with_reducible exact until30_calls _) ?_; rintro e w1 ⟨rfl, rfl⟩) | (go_at_call 26; refine (between_calls _ _ _ _).mono ?_; rintro e w1 ⟨rfl, rfl⟩))
  rw [← hn, ← hr]
  have KQ := K.mk (QS.two w 1900 1 0 (r / 3600) (r / 60 % 60) (r % 60) z)
  generalize World.alloc (World.alloc _ _) _ = w1 at KQ ⊢
  have hn2 : 0 ≤ n ∧ n < 401767 := by omega
  have hr2 : 0 ≤ r ∧ r < 86400 := by omega
  have KE : K (sec + 60 * z = 86400 * (n - 25567) + r) := ⟨by omega⟩
  clear q1 hn hr d1 d2 d3 d4
  go_loopw [] (fun wc => ∃ y : Int, (1900 ≤ y ∧ y ≤ 2999) ∧ unt y ≤ n ∧ K (QS w wc (w.heap.size + 1) w.heap.size y 1 0 (r / 3600) (r / 60 % 60) (r % 60) z)) (fun wc => (3000 - intOf ((wc.cell? ⟨w.heap.size + 1, 0, none⟩).getD undef)).toNat)
  case atStart => exact ⟨1900, by omega, by rw [unt_1900]; omega, KQ⟩
  case round =>
    obtain ⟨y, hy, hu, KY⟩ := hrel
    have c0 := KY.out.cs
    have f0 := KY.out.frz 0
    have us := unt_succ y (by omega)
    have u1 := unt_le 1900 y (by omega) (by omega)
    have u2 := unt_le (y + 1) 3000 (by omega) (by omega)
    rw [unt_1900] at u1
    rw [unt_3000] at u2
    have yl : 365 ≤ yr y ∧ yr y ≤ 366 := by unfold yr; split <;> omega
    by_cases hge : unt (y + 1) ≤ n
    · have hy3 : y ≠ 2999 := by
        rintro rfl
        rw [show (2999 : Int) + 1 = 3000 from rfl, unt_3000] at hge
        omega
      have hy2 : y ≤ 2998 := by omega
      clear us
      go_wp2_with (go_at_call 24; refine (until_calls _ _ (by omega)).mono ?_; rintro e w2 ⟨rfl, rfl⟩)
      go_roundw
      case rel =>
        exact ⟨y + 1, by omega, hge, ⟨KY.out.set0 (y + 1)⟩⟩
      case measure =>
        rw [(KY.out.set0 (y + 1)).cs.1, c0.1]
        simp [intOf]
        omega
    · have hlt : n < unt y + yr y := by omega
      clear us
      go_wp2_with (go_at_call 24; refine (until_calls _ _ (by omega)).mono ?_; rintro e w2 ⟨rfl, rfl⟩)
      clear c0 f0 hge
      generalize hp : n - unt y = p
      have hp2 : 0 ≤ p ∧ p < yr y := by omega
      go_loopw [9] (fun v wc => ∃ m : Int, (1 ≤ m ∧ m ≤ 12) ∧ cum y m ≤ p ∧ v = .int .i64 (p - cum y m) ∧ K (QS w wc (w.heap.size + 1) w.heap.size y m 0 (r / 3600) (r / 60 % 60) (r % 60) z)) (fun _ wc => (13 - intOf ((wc.cell? ⟨w.heap.size + 1, 1, none⟩).getD undef)).toNat)
      case atStart => exact ⟨1, by omega, by rw [cum_one]; omega, by rw [cum_one]; simp, KY⟩
      case round =>
        obtain ⟨m, hm, hc, rfl, KM⟩ := hrel
        have c0 := KM.out.cs
        have f1 := KM.out.frz 1
        have hdm := dm_range y m
        have ks := cum_succ y m hm
        have k1 := cum_le y (m + 1) 13 (by omega) (by omega) (by omega)
        have k0 := cum_le y 1 m (by omega) hm.1 (by omega)
        rw [cum_all] at k1
        rw [cum_one] at k0
        by_cases hge : dm y m ≤ p - cum y m
        · have hm2 : m ≠ 12 := by
            rintro rfl
            have := cum_all y
            rw [show (12 : Int) + 1 = 13 from rfl] at ks
            omega
          have K1 := K.mk (KM.out.set1 (m + 1))
          have KS := K.mk ks
          clear ks
          go_wp2_with (go_at_call 25; refine (days_calls _ _ _).mono ?_; rintro e w3 ⟨rfl, rfl⟩)
          go_roundw
          case rel => exact ⟨m + 1, by omega, by rw [KS.out]; omega, by rw [KS.out]; go_num, K1⟩
          case measure =>
            rw [K1.out.cs.2.1, c0.2.1]
            simp [intOf]
            omega
        · have hA := AtV_of (sec := sec) (n := p - cum y m) h0 hy hm (by omega) hr2 (by have := KE.out; omega)
          have KA := K.mk hA
          have f2 := KM.out.frz 2
          clear hA ks
          obtain ⟨⟨r0, r1, r2, r3, r4, r5, r6⟩, ⟨q0, q1, q2, q3, q4, q5, q6⟩⟩ := rz7 KM.out.rb
          go_wp2_with (go_at_call 25; refine (days_calls _ _ _).mono ?_; rintro e w3 ⟨rfl, rfl⟩)
          have K2 := K.mk (KM.out.set2 (p - cum y m + 1))
          try simp only [Exit.inBlock, Exit.then]
          refine bodyPost_ret (results_row_tmp rfl _ _ w.heap.size _ _ _ _ rfl (res7 K2.out.rb K2.out.bel K2.out.o1 _ _ _ _ _ _ _).1 Try.underlying23 rfl rfl) rfl ⟨_, rfl, ?_, (res7 K2.out.rb K2.out.bel K2.out.o1 _ _ _ _ _ _ _).2⟩
          exact KA.out
theorem At_calls (sec z : Int) (w : World) :
    Calls Try.prog 13 #[.int .i64 sec, .int .i64 z] w fun e w' => ∃ v, e = .returned v ∧ AtV sec z v ∧ Below w.heap.size w w' := by
  cases hz : btw (-959) z 959 with
  | false => exact At_zone sec z w hz
  | true =>
    have h0 := btw_true.1 hz
    by_cases h1 : sec < -2209075200
    · exact At_low sec z w hz h1
    · by_cases h2 : 32503766400 < sec
      · exact At_high sec z w hz h1 h2
      · by_cases h3 : sec + 60 * z < -2208988800
        · exact At_before sec z w h0 hz (by omega) (by omega) h3
        · by_cases h4 : 32503680000 ≤ sec + 60 * z
          · exact At_behind sec z w h0 hz (by omega) (by omega) (by omega) h4
          · exact At_there sec z w h0 hz (by omega) (by omega) (by omega) (by omega)
end Go.Proofs.Ytdeegjhnomdepaa.st

