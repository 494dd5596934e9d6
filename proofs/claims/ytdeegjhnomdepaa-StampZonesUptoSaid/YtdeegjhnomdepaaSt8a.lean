/- Walks over chapter 8: the reference's Parse, the day in one digit. -/
import Derived.Test.YtdeegjhnomdepaaSt8h
set_option linter.unusedVariables false
set_option linter.unusedSimpArgs false
namespace Go.Proofs.Ytdeegjhnomdepaa.st
open Go.RowKit Go.Proofs.Ytdeegjhnomdepaa.b

set_option maxHeartbeats 8000000 in
set_option maxRecDepth 100000 in
theorem rParseA (d0 d1 s2 m3 m4 m5 s6 y7 y8 y9 y10 s11 h12 h13 s14 i15 i16 s17 c18 c19 s20 z21 z22 z23 z24 z25 : UInt8) (w : World) (hd : d0 = 32) :
    Calls Try.prog 8 #[str [d0, d1, s2, m3, m4, m5, s6, y7, y8, y9, y10, s11, h12, h13, s14, i15, i16, s17, c18, c19, s20, z21, z22, z23, z24, z25]] w fun e w' => e = .returned (RR26 d0 d1 s2 m3 m4 m5 s6 y7 y8 y9 y10 s11 h12 h13 s14 i15 i16 s17 c18 c19 s20 z21 z22 z23 z24 z25) ∧ Below w.heap.size w w' := by
  have KP := K.mk (okPat_iff d0 d1 s2 m3 m4 m5 s6 y7 y8 y9 y10 s11 h12 h13 s14 i15 i16 s17 c18 c19 s20 z21 z22 z23 z24 z25)
  have hcv := Joins.run_convert_bytes_const_at (P := Try.prog) (w.alloc (.cells #[.int .i64 0, .int .i64 0, .int .i64 0, .int .i64 0, .int .i64 0, .int .i64 0, .int .i64 0] 23)) 43 5 #[.int .u8 46, .int .u8 46, .int .u8 45, .int .u8 46, .int .u8 46, .int .u8 46, .int .u8 45, .int .u8 46, .int .u8 46, .int .u8 46, .int .u8 46, .int .u8 32, .int .u8 46, .int .u8 46, .int .u8 58, .int .u8 46, .int .u8 46, .int .u8 58, .int .u8 46, .int .u8 46, .int .u8 32, .int .u8 46, .int .u8 46, .int .u8 46, .int .u8 46, .int .u8 46] 26 26 (w.heap.size + 1) (by simp) rfl rfl
  have KW := K.mk (PW.start w)
  unfold str
  go_enter Try.func8, Try.ntmps8
  go_wp2
  clear hcv
  generalize hxs : [d0, d1, s2, m3, m4, m5, s6, y7, y8, y9, y10, s11, h12, h13, s14, i15, i16, s17, c18, c19, s20, z21, z22, z23, z24, z25] = xs at KP
  have hxl : xs.length = 26 := by rw [← hxs]; rfl
  generalize World.alloc (World.alloc _ _) _ = w2 at KW ⊢
  go_loop [19] (fun v => ∃ i : Nat, i ≤ 26 ∧ v = .int .i64 (i : Int) ∧ K (okPat xs i)) (fun v => 26 - (intOf v).toNat)
  case atStart => exact ⟨0, by omega, rfl, ⟨fun i hi => by omega⟩⟩
  case round =>
    obtain ⟨i, hi, rfl, KO⟩ := hrel
    by_cases h1 : i < 26
    · have hp := KW.out.pt i h1
      have hx : ∀ h, (⟨xs.toArray⟩ : ByteArray)[i]'h = xs.getD i 0 := by
        intro h
        rw [ba_get xs i h (by omega)]
        simp [List.getElem?_eq_getElem (show i < xs.length by omega)]
      generalize hc : pat.getD i 0 = c at hp
      generalize hxi : xs.getD i 0 = x at hx
      by_cases hc46 : c = 46
      · subst hc46
        go_wp2
        go_round
        case rel =>
          refine ⟨i + 1, by omega, by go_num, ⟨fun k hk => ?_⟩⟩
          rcases Nat.lt_succ_iff_lt_or_eq.1 hk with h | rfl
          · exact KO.out k h
          · exact .inl hc
        case measure => simp [intOf]; omega
      · have hn : ((c.toNat : Int) != 46) = true := by rw [bne_iff_ne]; intro e; exact hc46 (UInt8.toNat_inj.1 (by simpa using Int.ofNat_inj.1 e))
        by_cases hcx : x = c
        · have hn2 : ((x.toNat : Int) != c.toNat) = false := by rw [hcx]; simp
          go_wp2
          go_round
          case rel =>
            refine ⟨i + 1, by omega, by go_num, ⟨fun k hk => ?_⟩⟩
            rcases Nat.lt_succ_iff_lt_or_eq.1 hk with h | rfl
            · exact KO.out k h
            · exact .inr (by rw [hxi, hc, hcx])
          case measure => simp [intOf]; omega
        · have hn2 : ((x.toNat : Int) != c.toNat) = true := by rw [bne_iff_ne]; intro e; exact hcx (UInt8.toNat_inj.1 (Int.ofNat_inj.1 e))
          have hno : ¬ (s2 = 45 ∧ s6 = 45 ∧ s11 = 32 ∧ s14 = 58 ∧ s17 = 58 ∧ s20 = 32) := by
            intro hall
            rcases KP.out.2 hall i h1 with h | h
            · exact hc46 (hc.symm.trans h)
            · exact hcx (by rw [← hxi, h, hc])
          have hex : ∃ k, k < 26 ∧ pat.getD k 0 = c ∧ xs.getD k 0 = x := ⟨i, h1, hc, hxi⟩
          clear hcx hc46 hc hxi hxs KP KO
          obtain ⟨⟨r0, r1, r2, r3, r4, r5, r6⟩, ⟨q0, q1, q2, q3, q4, q5, q6⟩⟩ := rz7 KW.out.rb
          go_wp2
          try simp only [Exit.inBlock, Exit.then]
          refine bodyPost_ret (results_row_tmp rfl _ _ w.heap.size _ _ _ _ rfl (res7 KW.out.rb KW.out.bel (Nat.le_refl _) _ _ _ _ _ _ _).1 Try.underlying23 rfl rfl) rfl ?_
          exact ⟨by rw [RR26, if_neg hno]; rfl, (res7 KW.out.rb KW.out.bel (Nat.le_refl _) _ _ _ _ _ _ _).2⟩
    · obtain rfl : i = 26 := by omega
      have hok := KP.out.1 KO.out
      subst hxs
      clear h1 hi KO KP hxl
      obtain ⟨rfl, rfl, rfl, rfl, rfl, rfl⟩ := hok
      subst hd
      have x0 : (⟨#[32, d1, 45, m3, m4, m5, 45, y7, y8, y9, y10, 32, h12, h13, 58, i15, i16, 58, c18, c19, 32, z21, z22, z23, z24, z25]⟩ : ByteArray).extract 0 2 = ⟨#[32, d1]⟩ := rfl
      have x12 : (⟨#[32, d1, 45, m3, m4, m5, 45, y7, y8, y9, y10, 32, h12, h13, 58, i15, i16, 58, c18, c19, 32, z21, z22, z23, z24, z25]⟩ : ByteArray).extract 12 14 = ⟨#[h12, h13]⟩ := rfl
      have x15 : (⟨#[32, d1, 45, m3, m4, m5, 45, y7, y8, y9, y10, 32, h12, h13, 58, i15, i16, 58, c18, c19, 32, z21, z22, z23, z24, z25]⟩ : ByteArray).extract 15 17 = ⟨#[i15, i16]⟩ := rfl
      have x18 : (⟨#[32, d1, 45, m3, m4, m5, 45, y7, y8, y9, y10, 32, h12, h13, 58, i15, i16, 58, c18, c19, 32, z21, z22, z23, z24, z25]⟩ : ByteArray).extract 18 20 = ⟨#[c18, c19]⟩ := rfl
      go_wp2
      refine region_float (.cells #[.int .i64 0, .int .i64 0, .int .i64 0, .int .i64 0, .int .i64 0, .int .i64 0, .int .i64 0] 23) 14 13 (by decide) (by kernel_rfl) (by kernel_rfl) ?_
      simp only [List.take_succ_cons, List.take_zero, List.drop_succ_cons, List.drop_zero]
      repeat
        first
        | (refine Wf_quiet (by decide) rfl (fun K hK => ?_)
           apply Exists.intro
           refine ⟨fun B hB m => ?_, ?_⟩
           · go_simp
             first | exact rfl | (go_at_call 21; exact Dr.quiet (two_calls _ _ _))
           go_simp
           refine hK _ ?_
           clear hK K)
        | (refine Wf_alloc rfl (fun m => ?_) ?_
           · go_simp
             done
           go_simp)
      intro nq
      have KN := K.mk (QS.start KW.out nq)
      have hn := QS.start_cells KW.out nq
      obtain ⟨⟨n0, n1, n2, n3, n4, n5, n6⟩, ⟨k0, k1, k2, k3, k4, k5, k6⟩⟩ := hn
      have KQ0 := K.mk (((((((KN.out.set0 0).set1 0).set2 (twoV 32 d1)).set3 (twoV h12 h13)).set4 (twoV i15 i16)).set5 (twoV c18 c19)).set6 0)
      clear KN KW x0 x12 x15 x18
      have e0 : ∀ h, (⟨#[32, d1, 45, m3, m4, m5, 45, y7, y8, y9, y10, 32, h12, h13, 58, i15, i16, 58, c18, c19, 32, z21, z22, z23, z24, z25]⟩ : ByteArray)[0]'h = 32 := fun _ => rfl
      go_wp2_with fail
      clear n0 n1 n2 n3 n4 n5 n6 k0 k1 k2 k3 k4 k5 k6
      generalize World.setCell _ ⟨w2.heap.size, 6, none⟩ _ = w3 at KQ0 ⊢
      refine (two_calls 48 d1 _).mono ?_
      rintro e w4 ⟨rfl, hD⟩
      have KQ1 := K.mk (KQ0.out.keep (hD.below _))
      clear hD KQ0 e0
      have c0 := KQ1.out.cs
      have f0 := KQ1.out.frz 2
      go_wp2
      have KQ2 := K.mk (KQ1.out.set2 (twoV 48 d1))
      clear c0 f0 KQ1
      generalize World.setCell _ _ _ = w5 at KQ2 ⊢
      have KRR : K (RR26 32 d1 45 m3 m4 m5 45 y7 y8 y9 y10 32 h12 h13 58 i15 i16 58 c18 c19 32 z21 z22 z23 z24 z25 = RRb (twoV y7 y8) (twoV y9 y10) (twoV z22 z23) (twoV z24 z25) z21 z22 z23 z24 z25 (idx mons [m3, m4, m5] : Nat) (twoV 48 d1) (twoV h12 h13) (twoV i15 i16) (twoV c18 c19)) := ⟨by rw [RR26, if_pos ⟨rfl, rfl, rfl, rfl, rfl, rfl⟩, dayR, if_pos rfl]⟩
      generalize (twoV 48 d1) = dv at KQ2 KRR
      have x3 : (⟨#[32, d1, 45, m3, m4, m5, 45, y7, y8, y9, y10, 32, h12, h13, 58, i15, i16, 58, c18, c19, 32, z21, z22, z23, z24, z25]⟩ : ByteArray).extract 3 6 = ⟨#[m3, m4, m5]⟩ := rfl
      have hidx : idx mons [m3, m4, m5] ≤ 12 := idx_le mons _
      go_loopw [7] (fun v wc => ∃ n : Nat, (1 ≤ n ∧ n ≤ 13) ∧ v = .int .i64 (n : Int) ∧ K (QS w wc w2.heap.size w.heap.size 0 (if idx mons [m3, m4, m5] < n then (idx mons [m3, m4, m5] : Int) else 0) dv (twoV h12 h13) (twoV i15 i16) (twoV c18 c19) 0)) (fun v _ => 13 - (intOf v).toNat)
      case atStart =>
        refine ⟨1, by omega, rfl, ?_⟩
        by_cases h0 : idx mons [m3, m4, m5] < 1
        · rw [if_pos h0, show (idx mons [m3, m4, m5]) = 0 by omega]; exact KQ2
        · rw [if_neg h0]; exact KQ2
      case round =>
        obtain ⟨n, hn, rfl, KQ⟩ := hrel
        by_cases h1 : n ≤ 12
        · have hme := mons_eq [m3, m4, m5] n hn.1 h1
          have hcall : ∀ W, Calls Try.prog 22 #[.int .i64 (n : Int)] W fun e w' => e = .returned (.string ⟨(mons.getD (n - 1) []).toArray⟩) ∧ w' = W := fun W => rmonth_calls n hn.1 h1 W
          generalize mons.getD (n - 1) [] = mn at hme hcall
          by_cases hi : idx mons [m3, m4, m5] = n
          · rw [decide_eq_true hi] at hme
            have hmn : mn = [m3, m4, m5] := by simpa using hme
            subst hmn
            clear hme
            have f1 := KQ.out.frz 1
            have c1 := KQ.out.cs
            go_wp2
            go_quiet ((go_at_call 22; exact Calls.quiet_of_same (hcall _)))
            go_wp2
            go_roundw
            case rel =>
              refine ⟨n + 1, by omega, by go_num, ⟨?_⟩⟩
              have hs := (KQ.out.keep (Dr.below ⟨nq, rfl⟩ _)).set1 (n : Int)
              rw [if_pos (by omega), hi]
              exact hs
            case measure => simp [intOf]; omega
          · rw [decide_eq_false hi] at hme
            have hmn : ([m3, m4, m5] == mn) = false := by rw [beq_eq_false_iff_ne] at hme ⊢; exact fun e => hme e.symm
            clear hme
            go_wp2
            go_quiet ((go_at_call 22; exact Calls.quiet_of_same (hcall _)))
            go_wp2
            go_roundw
            case rel =>
              refine ⟨n + 1, by omega, by go_num, ⟨?_⟩⟩
              have hs := KQ.out.keep (Dr.below ⟨nq, rfl⟩ _)
              by_cases hlt : idx mons [m3, m4, m5] < n
              · rw [if_pos hlt] at hs
                rw [if_pos (by omega)]
                exact hs
              · rw [if_neg hlt] at hs
                rw [if_neg (by omega)]
                exact hs
            case measure => simp [intOf]; omega
        · obtain rfl : n = 13 := by omega
          have K6 := K.mk KQ.out
          rw [if_pos (by omega)] at K6
          clear KQ h1 hn hidx x3
          generalize idx mons [m3, m4, m5] = mo at K6 KRR
          have x7 : (⟨#[32, d1, 45, m3, m4, m5, 45, y7, y8, y9, y10, 32, h12, h13, 58, i15, i16, 58, c18, c19, 32, z21, z22, z23, z24, z25]⟩ : ByteArray).extract 7 9 = ⟨#[y7, y8]⟩ := rfl
          have x9 : (⟨#[32, d1, 45, m3, m4, m5, 45, y7, y8, y9, y10, 32, h12, h13, 58, i15, i16, 58, c18, c19, 32, z21, z22, z23, z24, z25]⟩ : ByteArray).extract 9 11 = ⟨#[y9, y10]⟩ := rfl
          have x22 : (⟨#[32, d1, 45, m3, m4, m5, 45, y7, y8, y9, y10, 32, h12, h13, 58, i15, i16, 58, c18, c19, 32, z21, z22, z23, z24, z25]⟩ : ByteArray).extract 22 24 = ⟨#[z22, z23]⟩ := rfl
          have x24 : (⟨#[32, d1, 45, m3, m4, m5, 45, y7, y8, y9, y10, 32, h12, h13, 58, i15, i16, 58, c18, c19, 32, z21, z22, z23, z24, z25]⟩ : ByteArray).extract 24 26 = ⟨#[z24, z25]⟩ := rfl
          go_wp2
          go_quiet ((go_at_call 21; exact Dr.quiet (two_calls _ _ _)))
          have K7 := K.mk (K6.out.keep (Dr.below ⟨nq, rfl⟩ _))
          clear K6 x7 x9 x22 x24
          generalize World.drewN _ _ = w7 at K7 ⊢
          have hA := twoV_range y7 y8
          have hB := twoV_range y9 y10
          have hH := twoV_range z22 z23
          have hM := twoV_range z24 z25
          generalize twoV y7 y8 = A at KRR hA ⊢
          generalize twoV y9 y10 = B at KRR hB ⊢
          generalize twoV z22 z23 = H at KRR hH ⊢
          generalize twoV z24 z25 = M at KRR hM ⊢
          have x21 : (⟨#[32, d1, 45, m3, m4, m5, 45, y7, y8, y9, y10, 32, h12, h13, 58, i15, i16, 58, c18, c19, 32, z21, z22, z23, z24, z25]⟩ : ByteArray).extract 21 26 = ⟨#[z21, z22, z23, z24, z25]⟩ := rfl
          have e21 : ∀ h, (⟨#[32, d1, 45, m3, m4, m5, 45, y7, y8, y9, y10, 32, h12, h13, 58, i15, i16, 58, c18, c19, 32, z21, z22, z23, z24, z25]⟩ : ByteArray)[21]'h = z21 := fun _ => rfl
          replace KRR : K (RR26 32 d1 45 m3 m4 m5 45 y7 y8 y9 y10 32 h12 h13 58 i15 i16 58 c18 c19 32 z21 z22 z23 z24 z25 = if 0 ≤ A ∧ 0 ≤ B ∧ 0 ≤ H ∧ 0 ≤ M ∧ M ≤ 59 ∧ (z21 = 43 ∨ z21 = 45) ∧ ¬ [z21, z22, z23, z24, z25] = [45, 48, 48, 48, 48] ∧ Rt (100 * A + B) mo dv (twoV h12 h13) (twoV i15 i16) (twoV c18 c19) (if z21 = 45 then -(60 * H + M) else 60 * H + M) = true
  then .tuple #[stv (100 * A + B) mo dv (twoV h12 h13) (twoV i15 i16) (twoV c18 c19) (if z21 = 45 then -(60 * H + M) else 60 * H + M), .int .i64 0]
  else .tuple #[stv 0 0 0 0 0 0 0, .int .i64 9]) := KRR
          by_cases hA0 : A < 0
          case pos =>
            obtain ⟨⟨r0, r1, r2, r3, r4, r5, r6⟩, ⟨q0, q1, q2, q3, q4, q5, q6⟩⟩ := rz7 K7.out.rb
            have KX := K.mk (KRR.out.trans (if_neg (by omega)))
            clear KRR
            go_wp2
            try simp only [Exit.inBlock, Exit.then]
            refine bodyPost_ret (results_row_tmp rfl _ _ w.heap.size _ _ _ _ rfl (res7 K7.out.rb K7.out.bel K7.out.o1 _ _ _ _ _ _ _).1 Try.underlying23 rfl rfl) rfl ?_
            exact ⟨by rw [KX.out]; rfl, (res7 K7.out.rb K7.out.bel K7.out.o1 _ _ _ _ _ _ _).2⟩
          by_cases hB0 : B < 0
          case pos =>
            obtain ⟨⟨r0, r1, r2, r3, r4, r5, r6⟩, ⟨q0, q1, q2, q3, q4, q5, q6⟩⟩ := rz7 K7.out.rb
            have KX := K.mk (KRR.out.trans (if_neg (by omega)))
            clear KRR
            go_wp2
            try simp only [Exit.inBlock, Exit.then]
            refine bodyPost_ret (results_row_tmp rfl _ _ w.heap.size _ _ _ _ rfl (res7 K7.out.rb K7.out.bel K7.out.o1 _ _ _ _ _ _ _).1 Try.underlying23 rfl rfl) rfl ?_
            exact ⟨by rw [KX.out]; rfl, (res7 K7.out.rb K7.out.bel K7.out.o1 _ _ _ _ _ _ _).2⟩
          by_cases hH0 : H < 0
          case pos =>
            obtain ⟨⟨r0, r1, r2, r3, r4, r5, r6⟩, ⟨q0, q1, q2, q3, q4, q5, q6⟩⟩ := rz7 K7.out.rb
            have KX := K.mk (KRR.out.trans (if_neg (by omega)))
            clear KRR
            go_wp2
            try simp only [Exit.inBlock, Exit.then]
            refine bodyPost_ret (results_row_tmp rfl _ _ w.heap.size _ _ _ _ rfl (res7 K7.out.rb K7.out.bel K7.out.o1 _ _ _ _ _ _ _).1 Try.underlying23 rfl rfl) rfl ?_
            exact ⟨by rw [KX.out]; rfl, (res7 K7.out.rb K7.out.bel K7.out.o1 _ _ _ _ _ _ _).2⟩
          by_cases hM0 : M < 0
          case pos =>
            obtain ⟨⟨r0, r1, r2, r3, r4, r5, r6⟩, ⟨q0, q1, q2, q3, q4, q5, q6⟩⟩ := rz7 K7.out.rb
            have KX := K.mk (KRR.out.trans (if_neg (by omega)))
            clear KRR
            go_wp2
            try simp only [Exit.inBlock, Exit.then]
            refine bodyPost_ret (results_row_tmp rfl _ _ w.heap.size _ _ _ _ rfl (res7 K7.out.rb K7.out.bel K7.out.o1 _ _ _ _ _ _ _).1 Try.underlying23 rfl rfl) rfl ?_
            exact ⟨by rw [KX.out]; rfl, (res7 K7.out.rb K7.out.bel K7.out.o1 _ _ _ _ _ _ _).2⟩
          by_cases hM1 : 59 < M
          case pos =>
            obtain ⟨⟨r0, r1, r2, r3, r4, r5, r6⟩, ⟨q0, q1, q2, q3, q4, q5, q6⟩⟩ := rz7 K7.out.rb
            have KX := K.mk (KRR.out.trans (if_neg (by omega)))
            clear KRR
            go_wp2
            try simp only [Exit.inBlock, Exit.then]
            refine bodyPost_ret (results_row_tmp rfl _ _ w.heap.size _ _ _ _ rfl (res7 K7.out.rb K7.out.bel K7.out.o1 _ _ _ _ _ _ _).1 Try.underlying23 rfl rfl) rfl ?_
            exact ⟨by rw [KX.out]; rfl, (res7 K7.out.rb K7.out.bel K7.out.o1 _ _ _ _ _ _ _).2⟩
          by_cases hz : z21 = 43
          case pos =>
            subst hz
            replace KRR := KRR
            rw [show (if (43 : UInt8) = 45 then -(60 * H + M) else 60 * H + M) = 60 * H + M from if_neg (by decide)] at KRR
            have KT : K (Rt (100 * A + B) mo dv (twoV h12 h13) (twoV i15 i16) (twoV c18 c19) (60 * H + M) = true → RR26 32 d1 45 m3 m4 m5 45 y7 y8 y9 y10 32 h12 h13 58 i15 i16 58 c18 c19 32 43 z22 z23 z24 z25 = .tuple #[stv (100 * A + B) mo dv (twoV h12 h13) (twoV i15 i16) (twoV c18 c19) (60 * H + M), .int .i64 0]) := ⟨fun hr => KRR.out.trans (if_pos ⟨by omega, by omega, by omega, by omega, by omega, .inl rfl, by simp, hr⟩)⟩
            have KF : K (Rt (100 * A + B) mo dv (twoV h12 h13) (twoV i15 i16) (twoV c18 c19) (60 * H + M) = false → RR26 32 d1 45 m3 m4 m5 45 y7 y8 y9 y10 32 h12 h13 58 i15 i16 58 c18 c19 32 43 z22 z23 z24 z25 = .tuple #[stv 0 0 0 0 0 0 0, .int .i64 9]) := ⟨fun hr => KRR.out.trans (if_neg (fun hh => by rw [hr] at hh; exact absurd hh.2.2.2.2.2.2.2 (by simp)))⟩
            clear KRR
            have c0 := K7.out.cs
            have f0 := K7.out.frz 0
            have f6 := K7.out.frz 6
            go_wp2_with fail
            have K8 := K.mk (((K7.out.set0 (100 * A + B)).set6 (60 * H + M)))
            clear c0 f0 f6 K7
            generalize World.setCell _ _ _ = w8 at K8 ⊢
            refine (rRight_calls _ _ _ _ _ _ _ _).mono ?_
            rintro e w9 ⟨rfl, hB9⟩
            have K9 := K.mk (K8.out.keep hB9)
            clear hB9 K8
            obtain ⟨g0, g1, g2, g3, g4, g5, g6⟩ := K9.out.cs
            obtain ⟨⟨r0, r1, r2, r3, r4, r5, r6⟩, ⟨q0, q1, q2, q3, q4, q5, q6⟩⟩ := rz7 K9.out.rb
            generalize Rt _ _ _ _ _ _ _ = rt at KT KF ⊢
            cases rt with
            | true =>
              have KX := K.mk (KT.out rfl)
              clear KT KF
              go_wp2
              try simp only [Exit.inBlock, Exit.then]
              refine bodyPost_ret (results_row_tmp rfl _ _ w.heap.size _ _ _ _ rfl (res7 K9.out.rb K9.out.bel K9.out.o1 _ _ _ _ _ _ _).1 Try.underlying23 rfl rfl) rfl ?_
              exact ⟨by rw [KX.out]; rfl, (res7 K9.out.rb K9.out.bel K9.out.o1 _ _ _ _ _ _ _).2⟩
            | false =>
              have KX := K.mk (KF.out rfl)
              clear KT KF
              go_wp2
              try simp only [Exit.inBlock, Exit.then]
              refine bodyPost_ret (results_row_tmp rfl _ _ w.heap.size _ _ _ _ rfl (res7 K9.out.rb K9.out.bel K9.out.o1 _ _ _ _ _ _ _).1 Try.underlying23 rfl rfl) rfl ?_
              exact ⟨by rw [KX.out]; rfl, (res7 K9.out.rb K9.out.bel K9.out.o1 _ _ _ _ _ _ _).2⟩
          have hz1 : ((z21.toNat : Int) != 43) = true := by rw [bne_iff_ne]; intro e; exact hz (UInt8.toNat_inj.1 (by simpa using Int.ofNat_inj.1 e))
          by_cases hy : z21 = 45
          case neg =>
            have hz2 : ((z21.toNat : Int) != 45) = true := by rw [bne_iff_ne]; intro e; exact hy (UInt8.toNat_inj.1 (by simpa using Int.ofNat_inj.1 e))
            obtain ⟨⟨r0, r1, r2, r3, r4, r5, r6⟩, ⟨q0, q1, q2, q3, q4, q5, q6⟩⟩ := rz7 K7.out.rb
            have KX := K.mk (KRR.out.trans (if_neg (by intro hh; rcases hh.2.2.2.2.2.1 with h | h; exact hz h; exact hy h)))
            clear KRR
            go_wp2
            try simp only [Exit.inBlock, Exit.then]
            refine bodyPost_ret (results_row_tmp rfl _ _ w.heap.size _ _ _ _ rfl (res7 K7.out.rb K7.out.bel K7.out.o1 _ _ _ _ _ _ _).1 Try.underlying23 rfl rfl) rfl ?_
            exact ⟨by rw [KX.out]; rfl, (res7 K7.out.rb K7.out.bel K7.out.o1 _ _ _ _ _ _ _).2⟩
          subst hy
          by_cases hz0 : [45, z22, z23, z24, z25] = [(45 : UInt8), 48, 48, 48, 48]
          case pos =>
            obtain ⟨⟨r0, r1, r2, r3, r4, r5, r6⟩, ⟨q0, q1, q2, q3, q4, q5, q6⟩⟩ := rz7 K7.out.rb
            have KX := K.mk (KRR.out.trans (if_neg (by intro hh; exact hh.2.2.2.2.2.2.1 hz0)))
            clear KRR
            obtain ⟨rfl, rfl, rfl, rfl⟩ : z22 = 48 ∧ z23 = 48 ∧ z24 = 48 ∧ z25 = 48 := by simpa using hz0
            clear hz0
            go_wp2
            try simp only [Exit.inBlock, Exit.then]
            refine bodyPost_ret (results_row_tmp rfl _ _ w.heap.size _ _ _ _ rfl (res7 K7.out.rb K7.out.bel K7.out.o1 _ _ _ _ _ _ _).1 Try.underlying23 rfl rfl) rfl ?_
            exact ⟨by rw [KX.out]; rfl, (res7 K7.out.rb K7.out.bel K7.out.o1 _ _ _ _ _ _ _).2⟩
          have hz3 : ([45, z22, z23, z24, z25] == [(45 : UInt8), 48, 48, 48, 48]) = false := by rw [beq_eq_false_iff_ne]; exact hz0
          rw [show (if (45 : UInt8) = 45 then -(60 * H + M) else 60 * H + M) = -(60 * H + M) from if_pos rfl] at KRR
          have KT : K (Rt (100 * A + B) mo dv (twoV h12 h13) (twoV i15 i16) (twoV c18 c19) (-(60 * H + M)) = true → RR26 32 d1 45 m3 m4 m5 45 y7 y8 y9 y10 32 h12 h13 58 i15 i16 58 c18 c19 32 45 z22 z23 z24 z25 = .tuple #[stv (100 * A + B) mo dv (twoV h12 h13) (twoV i15 i16) (twoV c18 c19) (-(60 * H + M)), .int .i64 0]) := ⟨fun hr => KRR.out.trans (if_pos ⟨by omega, by omega, by omega, by omega, by omega, .inr rfl, hz0, hr⟩)⟩
          have KF : K (Rt (100 * A + B) mo dv (twoV h12 h13) (twoV i15 i16) (twoV c18 c19) (-(60 * H + M)) = false → RR26 32 d1 45 m3 m4 m5 45 y7 y8 y9 y10 32 h12 h13 58 i15 i16 58 c18 c19 32 45 z22 z23 z24 z25 = .tuple #[stv 0 0 0 0 0 0 0, .int .i64 9]) := ⟨fun hr => KRR.out.trans (if_neg (fun hh => by rw [hr] at hh; exact absurd hh.2.2.2.2.2.2.2 (by simp)))⟩
          clear KRR
          have c0 := K7.out.cs
          have f0 := K7.out.frz 0
          have f6 := K7.out.frz 6
          have K8 := K.mk (((K7.out.set0 (100 * A + B)).set6 (60 * H + M)).set6 (-(60 * H + M)))
          have c8 := K8.out.cs.2.2.2.2.2.2
          go_wp2_with fail
          clear c0 f0 f6 K7 c8
          generalize World.setCell _ _ _ = w8 at K8 ⊢
          refine (rRight_calls _ _ _ _ _ _ _ _).mono ?_
          rintro e w9 ⟨rfl, hB9⟩
          have K9 := K.mk (K8.out.keep hB9)
          clear hB9 K8
          obtain ⟨g0, g1, g2, g3, g4, g5, g6⟩ := K9.out.cs
          obtain ⟨⟨r0, r1, r2, r3, r4, r5, r6⟩, ⟨q0, q1, q2, q3, q4, q5, q6⟩⟩ := rz7 K9.out.rb
          generalize Rt _ _ _ _ _ _ _ = rt at KT KF ⊢
          cases rt with
          | true =>
            have KX := K.mk (KT.out rfl)
            clear KT KF
            go_wp2
            try simp only [Exit.inBlock, Exit.then]
            refine bodyPost_ret (results_row_tmp rfl _ _ w.heap.size _ _ _ _ rfl (res7 K9.out.rb K9.out.bel K9.out.o1 _ _ _ _ _ _ _).1 Try.underlying23 rfl rfl) rfl ?_
            exact ⟨by rw [KX.out]; rfl, (res7 K9.out.rb K9.out.bel K9.out.o1 _ _ _ _ _ _ _).2⟩
          | false =>
            have KX := K.mk (KF.out rfl)
            clear KT KF
            go_wp2
            try simp only [Exit.inBlock, Exit.then]
            refine bodyPost_ret (results_row_tmp rfl _ _ w.heap.size _ _ _ _ rfl (res7 K9.out.rb K9.out.bel K9.out.o1 _ _ _ _ _ _ _).1 Try.underlying23 rfl rfl) rfl ?_
            exact ⟨by rw [KX.out]; rfl, (res7 K9.out.rb K9.out.bel K9.out.o1 _ _ _ _ _ _ _).2⟩
end Go.Proofs.Ytdeegjhnomdepaa.st

