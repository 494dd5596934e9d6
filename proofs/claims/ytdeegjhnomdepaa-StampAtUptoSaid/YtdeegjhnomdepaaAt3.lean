/- Walks over chapter 8: the stamp of some seconds, by the reference. -/
import Derived.Test.YtdeegjhnomdepaaStQ
import Derived.Test.YtdeegjhnomdepaaSt9
import Derived.Test.YtdeegjhnomdepaaAt1
import Derived.Test.YtdeegjhnomdepaaSt6
set_option linter.unusedVariables false
set_option linter.unusedSimpArgs false
namespace Go.Proofs.Ytdeegjhnomdepaa.st
open Go.RowKit Go.Proofs.Ytdeegjhnomdepaa.b

set_option maxHeartbeats 4000000 in
theorem rAt_out (sec z : Int) (w : World) (h : z < -959 ∨ 959 < z ∨ sec < -3000000000 ∨ 33000000000 < sec) :
    Calls Try.prog 14 #[.int .i64 sec, .int .i64 z] w fun e w' => ∃ v, e = .returned v ∧ AtV sec z v ∧ Below w.heap.size w w' := by
  have hA : ¬ inR sec z := fun hh => by have h1 := hh.1; have h2 := hh.2; omega
  have KA := K.mk hA
  clear hA
  have KB := K.mk ((Below.refl _ w).alloc (Nat.le_refl _) (.cells #[.int .i64 0, .int .i64 0, .int .i64 0, .int .i64 0, .int .i64 0, .int .i64 0, .int .i64 0] 23))
  have KZ := K.mk (heap_alloc_new w (.cells #[.int .i64 0, .int .i64 0, .int .i64 0, .int .i64 0, .int .i64 0, .int .i64 0, .int .i64 0] 23))
  have KH := K.mk h
  clear h
  by_cases h1 : z < -959
  · clear KH
    go_enter Try.func14, Try.ntmps14
    go_wp2
    try simp only [Exit.inBlock, Exit.then]
    exact bodyPost_ret (results_row_tmp rfl _ _ w.heap.size _ _ _ _ rfl KZ.out Try.underlying23 rfl rfl) rfl ⟨_, rfl, .inl ⟨KA.out, rfl⟩, KB.out⟩
  · by_cases h2 : 959 < z
    · clear KH
      go_enter Try.func14, Try.ntmps14
      go_wp2
      try simp only [Exit.inBlock, Exit.then]
      exact bodyPost_ret (results_row_tmp rfl _ _ w.heap.size _ _ _ _ rfl KZ.out Try.underlying23 rfl rfl) rfl ⟨_, rfl, .inl ⟨KA.out, rfl⟩, KB.out⟩
    · by_cases h3 : sec < -3000000000
      · clear KH
        go_enter Try.func14, Try.ntmps14
        go_wp2
        try simp only [Exit.inBlock, Exit.then]
        exact bodyPost_ret (results_row_tmp rfl _ _ w.heap.size _ _ _ _ rfl KZ.out Try.underlying23 rfl rfl) rfl ⟨_, rfl, .inl ⟨KA.out, rfl⟩, KB.out⟩
      · have h4 : 33000000000 < sec := by have := KH.out; omega
        clear KH
        go_enter Try.func14, Try.ntmps14
        go_wp2
        try simp only [Exit.inBlock, Exit.then]
        exact bodyPost_ret (results_row_tmp rfl _ _ w.heap.size _ _ _ _ rfl KZ.out Try.underlying23 rfl rfl) rfl ⟨_, rfl, .inl ⟨KA.out, rfl⟩, KB.out⟩

theorem tdm (s : Int) : s = 86400 * s.tdiv 86400 + s.tmod 86400 ∧ -86400 < s.tmod 86400 ∧ s.tmod 86400 < 86400 := by
  refine ⟨(Int.mul_tdiv_add_tmod s 86400).symm, ?_, Int.tmod_lt_of_pos s (by omega)⟩
  have h := Int.tmod_lt_of_pos (-s) (b := 86400) (by omega)
  rw [Int.neg_tmod] at h
  omega
set_option maxHeartbeats 8000000 in
theorem rAt_in (sec z : Int) (w : World) (h1 : -959 ≤ z) (h2 : z ≤ 959) (h3 : -3000000000 ≤ sec) (h4 : sec ≤ 33000000000) :
    Calls Try.prog 14 #[.int .i64 sec, .int .i64 z] w fun e w' => ∃ v, e = .returned v ∧ AtV sec z v ∧ Below w.heap.size w w' := by
  have T := tdm (sec + z * 60)
  have d1 : decide (z < -959) = false := by rw [decide_eq_false_iff_not]; omega
  have d2 : decide (959 < z) = false := by rw [decide_eq_false_iff_not]; omega
  have d3 : decide (sec < -3000000000) = false := by rw [decide_eq_false_iff_not]; omega
  have d4 : decide (33000000000 < sec) = false := by rw [decide_eq_false_iff_not]; omega
  obtain ⟨q, hq⟩ : ∃ q, (sec + z * 60).tdiv 86400 = q := ⟨_, rfl⟩
  obtain ⟨t, ht⟩ : ∃ t, (sec + z * 60).tmod 86400 = t := ⟨_, rfl⟩
  rw [hq, ht] at T
  have KT := K.mk T.1
  have T1 := T.2.1
  have T2 := T.2.2
  have q1 : -40000 ≤ q ∧ q ≤ 400000 := by have := T.1; omega
  clear T
  by_cases hneg : t < 0
  · have S1 : sec + z * 60 - (q - 1) * 86400 = t + 86400 := by have := KT.out; omega
    go_enter Try.func14, Try.ntmps14
    go_wp2
    have hD : -40001 ≤ (q - 1) ∧ (q - 1) ≤ 400000 := by omega
    have hR : 0 ≤ (t + 86400) ∧ (t + 86400) < 86400 := by omega
    have KE : K (sec + 60 * z = 86400 * (q - 1) + (t + 86400)) := ⟨by have := KT.out; omega⟩
    have KQ := K.mk (QS.two w 1970 1 0 ((t + 86400) / 3600) ((t + 86400) / 60 % 60) ((t + 86400) % 60) z)
    generalize World.alloc (World.alloc _ _) _ = w1 at KQ ⊢
    clear d1 d2 d3 d4 hq ht S1 T1 T2 q1 hneg KT
    generalize (t + 86400) = r at hR KE KQ ⊢
    generalize (q - 1) = D at hD KE ⊢
    go_loopw [7] (fun v wc => ∃ y d : Int, 1970 ≤ y ∧ d + unt y = D + 25567 ∧ (0 ≤ d ∨ y = 1970) ∧ v = .int .i64 d ∧ K (QS w wc (w.heap.size + 1) w.heap.size y 1 0 (r / 3600) (r / 60 % 60) (r % 60) z)) (fun v _ => (intOf v).toNat)
    case atStart => exact ⟨1970, D, by omega, by rw [unt_1970], .inr rfl, rfl, KQ⟩
    case round =>
      obtain ⟨y, d, hy, hu, hd, rfl, KY⟩ := hrel
      have c0 := KY.out.cs
      have f0 := KY.out.frz 0
      have us := unt_succ y (by omega)
      have u1 := unt_le 1970 y (by omega) hy
      rw [unt_1970] at u1
      have yl : 365 ≤ yr y ∧ yr y ≤ 366 := by unfold yr; split <;> omega
      have KU := K.mk hu
      have KS := K.mk us
      have hdr : d ≤ 400000 := by omega
      have hyr : y ≤ 3100 := by omega
      have hdl : -40001 ≤ d := by rcases hd with h | h; omega; subst h; rw [unt_1970] at hu; omega
      clear hu us u1
      by_cases hge : yr y ≤ d
      · go_wp2_with (go_at_call 27; refine (year_calls _ _).mono ?_; rintro e w2 ⟨rfl, rfl⟩)
        go_roundw
        case rel => exact ⟨y + 1, d - yr y, by omega, by have := KU.out; have := KS.out; omega, .inl (by omega), rfl, ⟨KY.out.set0 (y + 1)⟩⟩
        case measure => simp [intOf]; omega
      · go_wp2_with (go_at_call 27; refine (year_calls _ _).mono ?_; rintro e w2 ⟨rfl, rfl⟩)
        clear c0 f0
        have hu := KU.out
        clear KU KS
        go_loopw [7] (fun v wc => ∃ y d : Int, (1800 ≤ y ∧ y ≤ 3100) ∧ d + unt y = D + 25567 ∧ d < yr y ∧ v = .int .i64 d ∧ K (QS w wc (w.heap.size + 1) w.heap.size y 1 0 (r / 3600) (r / 60 % 60) (r % 60) z)) (fun v _ => (-(intOf v)).toNat)
        case atStart => exact ⟨y, d, by omega, hu, by omega, rfl, KY⟩
        case round =>
          clear hu hd hdr hyr hdl yl KY hy hge
          obtain ⟨y, d, hy, hu, hd, rfl, KY⟩ := hrel
          by_cases hn : d < 0
          · have hys : 1801 ≤ y := by
              by_cases h19 : 1900 ≤ y
              · omega
              · have := unt_le y 1900 (by omega) (by omega)
                rw [unt_1900] at this
                omega
            have us := unt_succ (y - 1) (by omega)
            rw [show y - 1 + 1 = y by omega] at us
            have yl : 365 ≤ yr (y - 1) ∧ yr (y - 1) ≤ 366 := by unfold yr; split <;> omega
            have hdl : -500000 ≤ d := by
              have := unt_le y 3101 (by omega) (by omega)
              have h31 : unt 3101 = 438656 := by decide
              rw [h31] at this
              omega
            have KU := K.mk hu
            have KS := K.mk us
            clear hu us
            have c0 := KY.out.cs
            have f0 := KY.out.frz 0
            go_wp2_with (go_at_call 27; refine (year_calls _ _).mono ?_; rintro e w2 ⟨rfl, rfl⟩)
            go_roundw
            case rel => exact ⟨y - 1, d + yr (y - 1), by omega, by have := KU.out; have := KS.out; omega, by omega, rfl, ⟨KY.out.set0 (y - 1)⟩⟩
            case measure => simp [intOf]; omega
          · go_wp2
            have KU := K.mk hu
            clear hu
            go_loopw [7] (fun v wc => ∃ m : Int, (1 ≤ m ∧ m ≤ 12) ∧ cum y m ≤ d ∧ v = .int .i64 (d - cum y m) ∧ K (QS w wc (w.heap.size + 1) w.heap.size y m 0 (r / 3600) (r / 60 % 60) (r % 60) z)) (fun _ wc => (13 - intOf ((wc.cell? ⟨w.heap.size + 1, 1, none⟩).getD undef)).toNat)
            case atStart => exact ⟨1, by omega, by rw [cum_one]; omega, by rw [cum_one]; simp, KY⟩
            case round =>
              obtain ⟨m, hm, hc, rfl, KM⟩ := hrel
              have c0 := KM.out.cs
              have f1 := KM.out.frz 1
              have hdm := dm_range y m
              have ks := cum_succ y m hm
              have k1 := cum_le y (m + 1) 13 (by omega) (by omega) (by omega)
              have k0 := cum_le y 1 m (by omega) hm.1 (by omega)
              rw [cum_all] at k1
              rw [cum_one] at k0
              have yl : yr y ≤ 366 := by unfold yr; split <;> omega
              by_cases hge : dm y m ≤ d - cum y m
              · have hm2 : m ≠ 12 := by
                  rintro rfl
                  have := cum_all y
                  rw [show (12 : Int) + 1 = 13 from rfl] at ks
                  omega
                have K1 := K.mk (KM.out.set1 (m + 1))
                have KS := K.mk ks
                clear ks
                go_wp2_with (go_at_call 23; refine (rdays_calls _ _ _).mono ?_; rintro e w3 ⟨rfl, rfl⟩)
                go_roundw
                case rel => exact ⟨m + 1, by omega, by rw [KS.out]; omega, by rw [KS.out]; go_num, K1⟩
                case measure =>
                  rw [K1.out.cs.2.1, c0.2.1]
                  simp [intOf]
                  omega
              · have hsec : secs0 y m (d - cum y m + 1) (r / 3600) (r / 60 % 60) (r % 60) z = sec := by
                  have := KE.out
                  have := KU.out
                  unfold secs0 dayNo
                  omega
                have KA : K (∀ rt, Rt y m (d - cum y m + 1) (r / 3600) (r / 60 % 60) (r % 60) z = rt → AtV sec z (if rt = true then .tuple #[stv y m (d - cum y m + 1) (r / 3600) (r / 60 % 60) (r % 60) z, .bool true] else .tuple #[stv 0 0 0 0 0 0 0, .bool false])) := ⟨by
                  intro rt hrt
                  cases rt with
                  | true => exact .inr ⟨_, _, _, _, _, _, hrt, hsec, rfl⟩
                  | false =>
                    refine .inl ⟨fun hin => ?_, rfl⟩
                    have e1 := KE.out
                    have e2 := KU.out
                    have hin2 := hin.2
                    have hyy : 1900 ≤ y ∧ y ≤ 2999 := by
                      constructor
                      · by_cases h : y < 1900
                        · have h5 := unt_le (y + 1) 1900 (by omega) (by omega)
                          rw [unt_succ y (by omega), unt_1900] at h5
                          omega
                        · omega
                      · by_cases h : y < 3000
                        · omega
                        · have h5 := unt_le 3000 y (by omega) (by omega)
                          rw [unt_3000] at h5
                          omega
                    rw [Rt_true.2 ⟨hyy, hm, by omega, by omega, by omega, by omega, by omega⟩] at hrt
                    cases hrt⟩
                have f2 := KM.out.frz 2
                have K2 := K.mk (KM.out.set2 (d - cum y m + 1))
                clear hsec ks
                go_wp2_with (first | (go_at_call 23; refine (rdays_calls _ _ _).mono ?_; rintro e w3 ⟨rfl, rfl⟩) | fail)
                clear c0 f1 f2 KM
                generalize World.setCell _ _ _ = w4 at K2 ⊢
                refine (rRight_calls _ _ _ _ _ _ _ _).mono ?_
                rintro e w5 ⟨rfl, hB⟩
                have K3 := K.mk (K2.out.keep hB)
                clear hB K2
                have KA2 := K.mk (KA.out _ rfl)
                clear KA
                obtain ⟨g0, g1, g2, g3, g4, g5, g6⟩ := K3.out.cs
                obtain ⟨⟨r0, r1, r2, r3, r4, r5, r6⟩, ⟨q0, q1, q2, q3, q4, q5, q6⟩⟩ := rz7 K3.out.rb
                generalize Rt _ _ _ _ _ _ _ = rt at KA2 ⊢
                cases rt with
                | true =>
                  go_wp2
                  try simp only [Exit.inBlock, Exit.then]
                  refine bodyPost_ret (results_row_tmp rfl _ _ w.heap.size _ _ _ _ rfl (res7 K3.out.rb K3.out.bel K3.out.o1 _ _ _ _ _ _ _).1 Try.underlying23 rfl rfl) rfl ⟨_, rfl, ?_, (res7 K3.out.rb K3.out.bel K3.out.o1 _ _ _ _ _ _ _).2⟩
                  exact KA2.out
                | false =>
                  go_wp2
                  try simp only [Exit.inBlock, Exit.then]
                  refine bodyPost_ret (results_row_tmp rfl _ _ w.heap.size _ _ _ _ rfl (res7 K3.out.rb K3.out.bel K3.out.o1 _ _ _ _ _ _ _).1 Try.underlying23 rfl rfl) rfl ⟨_, rfl, ?_, (res7 K3.out.rb K3.out.bel K3.out.o1 _ _ _ _ _ _ _).2⟩
                  exact KA2.out

  · have S1 : sec + z * 60 - q * 86400 = t := by have := KT.out; omega
    go_enter Try.func14, Try.ntmps14
    go_wp2
    have hD : -40001 ≤ q ∧ q ≤ 400000 := by omega
    have hR : 0 ≤ t ∧ t < 86400 := by omega
    have KE : K (sec + 60 * z = 86400 * q + t) := ⟨by have := KT.out; omega⟩
    have KQ := K.mk (QS.two w 1970 1 0 (t / 3600) (t / 60 % 60) (t % 60) z)
    generalize World.alloc (World.alloc _ _) _ = w1 at KQ ⊢
    clear d1 d2 d3 d4 hq ht S1 T1 T2 q1 hneg KT
    generalize t = r at hR KE KQ ⊢
    generalize q = D at hD KE ⊢
    go_loopw [7] (fun v wc => ∃ y d : Int, 1970 ≤ y ∧ d + unt y = D + 25567 ∧ (0 ≤ d ∨ y = 1970) ∧ v = .int .i64 d ∧ K (QS w wc (w.heap.size + 1) w.heap.size y 1 0 (r / 3600) (r / 60 % 60) (r % 60) z)) (fun v _ => (intOf v).toNat)
    case atStart => exact ⟨1970, D, by omega, by rw [unt_1970], .inr rfl, rfl, KQ⟩
    case round =>
      obtain ⟨y, d, hy, hu, hd, rfl, KY⟩ := hrel
      have c0 := KY.out.cs
      have f0 := KY.out.frz 0
      have us := unt_succ y (by omega)
      have u1 := unt_le 1970 y (by omega) hy
      rw [unt_1970] at u1
      have yl : 365 ≤ yr y ∧ yr y ≤ 366 := by unfold yr; split <;> omega
      have KU := K.mk hu
      have KS := K.mk us
      have hdr : d ≤ 400000 := by omega
      have hyr : y ≤ 3100 := by omega
      have hdl : -40001 ≤ d := by rcases hd with h | h; omega; subst h; rw [unt_1970] at hu; omega
      clear hu us u1
      by_cases hge : yr y ≤ d
      · go_wp2_with (go_at_call 27; refine (year_calls _ _).mono ?_; rintro e w2 ⟨rfl, rfl⟩)
        go_roundw
        case rel => exact ⟨y + 1, d - yr y, by omega, by have := KU.out; have := KS.out; omega, .inl (by omega), rfl, ⟨KY.out.set0 (y + 1)⟩⟩
        case measure => simp [intOf]; omega
      · go_wp2_with (go_at_call 27; refine (year_calls _ _).mono ?_; rintro e w2 ⟨rfl, rfl⟩)
        clear c0 f0
        have hu := KU.out
        clear KU KS
        go_loopw [7] (fun v wc => ∃ y d : Int, (1800 ≤ y ∧ y ≤ 3100) ∧ d + unt y = D + 25567 ∧ d < yr y ∧ v = .int .i64 d ∧ K (QS w wc (w.heap.size + 1) w.heap.size y 1 0 (r / 3600) (r / 60 % 60) (r % 60) z)) (fun v _ => (-(intOf v)).toNat)
        case atStart => exact ⟨y, d, by omega, hu, by omega, rfl, KY⟩
        case round =>
          clear hu hd hdr hyr hdl yl KY hy hge
          obtain ⟨y, d, hy, hu, hd, rfl, KY⟩ := hrel
          by_cases hn : d < 0
          · have hys : 1801 ≤ y := by
              by_cases h19 : 1900 ≤ y
              · omega
              · have := unt_le y 1900 (by omega) (by omega)
                rw [unt_1900] at this
                omega
            have us := unt_succ (y - 1) (by omega)
            rw [show y - 1 + 1 = y by omega] at us
            have yl : 365 ≤ yr (y - 1) ∧ yr (y - 1) ≤ 366 := by unfold yr; split <;> omega
            have hdl : -500000 ≤ d := by
              have := unt_le y 3101 (by omega) (by omega)
              have h31 : unt 3101 = 438656 := by decide
              rw [h31] at this
              omega
            have KU := K.mk hu
            have KS := K.mk us
            clear hu us
            have c0 := KY.out.cs
            have f0 := KY.out.frz 0
            go_wp2_with (go_at_call 27; refine (year_calls _ _).mono ?_; rintro e w2 ⟨rfl, rfl⟩)
            go_roundw
            case rel => exact ⟨y - 1, d + yr (y - 1), by omega, by have := KU.out; have := KS.out; omega, by omega, rfl, ⟨KY.out.set0 (y - 1)⟩⟩
            case measure => simp [intOf]; omega
          · go_wp2
            have KU := K.mk hu
            clear hu
            go_loopw [7] (fun v wc => ∃ m : Int, (1 ≤ m ∧ m ≤ 12) ∧ cum y m ≤ d ∧ v = .int .i64 (d - cum y m) ∧ K (QS w wc (w.heap.size + 1) w.heap.size y m 0 (r / 3600) (r / 60 % 60) (r % 60) z)) (fun _ wc => (13 - intOf ((wc.cell? ⟨w.heap.size + 1, 1, none⟩).getD undef)).toNat)
            case atStart => exact ⟨1, by omega, by rw [cum_one]; omega, by rw [cum_one]; simp, KY⟩
            case round =>
              obtain ⟨m, hm, hc, rfl, KM⟩ := hrel
              have c0 := KM.out.cs
              have f1 := KM.out.frz 1
              have hdm := dm_range y m
              have ks := cum_succ y m hm
              have k1 := cum_le y (m + 1) 13 (by omega) (by omega) (by omega)
              have k0 := cum_le y 1 m (by omega) hm.1 (by omega)
              rw [cum_all] at k1
              rw [cum_one] at k0
              have yl : yr y ≤ 366 := by unfold yr; split <;> omega
              by_cases hge : dm y m ≤ d - cum y m
              · have hm2 : m ≠ 12 := by
                  rintro rfl
                  have := cum_all y
                  rw [show (12 : Int) + 1 = 13 from rfl] at ks
                  omega
                have K1 := K.mk (KM.out.set1 (m + 1))
                have KS := K.mk ks
                clear ks
                go_wp2_with (go_at_call 23; refine (rdays_calls _ _ _).mono ?_; rintro e w3 ⟨rfl, rfl⟩)
                go_roundw
                case rel => exact ⟨m + 1, by omega, by rw [KS.out]; omega, by rw [KS.out]; go_num, K1⟩
                case measure =>
                  rw [K1.out.cs.2.1, c0.2.1]
                  simp [intOf]
                  omega
              · have hsec : secs0 y m (d - cum y m + 1) (r / 3600) (r / 60 % 60) (r % 60) z = sec := by
                  have := KE.out
                  have := KU.out
                  unfold secs0 dayNo
                  omega
                have KA : K (∀ rt, Rt y m (d - cum y m + 1) (r / 3600) (r / 60 % 60) (r % 60) z = rt → AtV sec z (if rt = true then .tuple #[stv y m (d - cum y m + 1) (r / 3600) (r / 60 % 60) (r % 60) z, .bool true] else .tuple #[stv 0 0 0 0 0 0 0, .bool false])) := ⟨by
                  intro rt hrt
                  cases rt with
                  | true => exact .inr ⟨_, _, _, _, _, _, hrt, hsec, rfl⟩
                  | false =>
                    refine .inl ⟨fun hin => ?_, rfl⟩
                    have e1 := KE.out
                    have e2 := KU.out
                    have hin2 := hin.2
                    have hyy : 1900 ≤ y ∧ y ≤ 2999 := by
                      constructor
                      · by_cases h : y < 1900
                        · have h5 := unt_le (y + 1) 1900 (by omega) (by omega)
                          rw [unt_succ y (by omega), unt_1900] at h5
                          omega
                        · omega
                      · by_cases h : y < 3000
                        · omega
                        · have h5 := unt_le 3000 y (by omega) (by omega)
                          rw [unt_3000] at h5
                          omega
                    rw [Rt_true.2 ⟨hyy, hm, by omega, by omega, by omega, by omega, by omega⟩] at hrt
                    cases hrt⟩
                have f2 := KM.out.frz 2
                have K2 := K.mk (KM.out.set2 (d - cum y m + 1))
                clear hsec ks
                go_wp2_with (first | (go_at_call 23; refine (rdays_calls _ _ _).mono ?_; rintro e w3 ⟨rfl, rfl⟩) | fail)
                clear c0 f1 f2 KM
                generalize World.setCell _ _ _ = w4 at K2 ⊢
                refine (rRight_calls _ _ _ _ _ _ _ _).mono ?_
                rintro e w5 ⟨rfl, hB⟩
                have K3 := K.mk (K2.out.keep hB)
                clear hB K2
                have KA2 := K.mk (KA.out _ rfl)
                clear KA
                obtain ⟨g0, g1, g2, g3, g4, g5, g6⟩ := K3.out.cs
                obtain ⟨⟨r0, r1, r2, r3, r4, r5, r6⟩, ⟨q0, q1, q2, q3, q4, q5, q6⟩⟩ := rz7 K3.out.rb
                generalize Rt _ _ _ _ _ _ _ = rt at KA2 ⊢
                cases rt with
                | true =>
                  go_wp2
                  try simp only [Exit.inBlock, Exit.then]
                  refine bodyPost_ret (results_row_tmp rfl _ _ w.heap.size _ _ _ _ rfl (res7 K3.out.rb K3.out.bel K3.out.o1 _ _ _ _ _ _ _).1 Try.underlying23 rfl rfl) rfl ⟨_, rfl, ?_, (res7 K3.out.rb K3.out.bel K3.out.o1 _ _ _ _ _ _ _).2⟩
                  exact KA2.out
                | false =>
                  go_wp2
                  try simp only [Exit.inBlock, Exit.then]
                  refine bodyPost_ret (results_row_tmp rfl _ _ w.heap.size _ _ _ _ rfl (res7 K3.out.rb K3.out.bel K3.out.o1 _ _ _ _ _ _ _).1 Try.underlying23 rfl rfl) rfl ⟨_, rfl, ?_, (res7 K3.out.rb K3.out.bel K3.out.o1 _ _ _ _ _ _ _).2⟩
                  exact KA2.out

end Go.Proofs.Ytdeegjhnomdepaa.st

