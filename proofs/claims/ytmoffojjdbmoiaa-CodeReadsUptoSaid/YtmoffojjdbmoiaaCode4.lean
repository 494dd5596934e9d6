/- Walks over chapter 1: the law CodeWrites. -/
import Derived.Test.YtmoffojjdbmoiaaCode3
import Derived.Test.YtmoffojjdbmoiaaHelp2
set_option linter.unusedVariables false
set_option linter.unusedSimpArgs false
namespace Go.Proofs.Ytmoffojjdbmoiaa.code
open Go.RowKit Go.Proofs.Ytmoffojjdbmoiaa.b Go.Proofs.Ytmoffojjdbmoiaa.help

theorem num300 : num 300 = [2, 1, 44] := by
  have : be 300 = [1, 44] := by
    rw [be_pos (by omega), be_pos (by omega), show 300 / 256 / 256 = 0 by omega, be_zero]; rfl
  simp [num, this]

theorem awake_calls (w : World) :
    Calls Try.prog 9 #[] w fun e w' => e = .returned (.bool true) ∧ Below w.heap.size w w' := by
  have h := Num_calls 300 w (by decide)
  rw [num300] at h
  have KH := K.mk h
  clear h
  go_enter Try.func9, Try.ntmps9
  go_wp2_with fail
  refine KH.out.mono ?_
  rintro e w1 ⟨u, rfl, hO, hB⟩
  obtain ⟨A, c, rfl, hc, hrv⟩ := own_rv hO
  obtain ⟨ad, rfl, h0⟩ := hrv.byte 0 (by decide)
  obtain ⟨_, e1, h1⟩ := hrv.byte 1 (by decide)
  cases e1
  obtain ⟨_, e2, h2⟩ := hrv.byte 2 (by decide)
  cases e2
  have KB := K.mk hB
  clear hO hrv hB
  replace h0 : w1.cell? ad = some (.int .u8 2) := h0
  replace h1 : w1.cell? ⟨ad.block, ad.off + 1, none⟩ = some (.int .u8 1) := h1
  replace h2 : w1.cell? ⟨ad.block, ad.off + 2, none⟩ = some (.int .u8 44) := h2
  go_wp2
  go_ret
  exact ⟨rfl, KB.out⟩

set_option maxHeartbeats 1000000 in
theorem CodeWrites_calls (v : Nat) (A : Option Addr) (n c : Nat) (xs : List UInt8) (w : World) (hv : v < 256 ^ 8) (hA : Rv w A (bvs xs)) (hn : xs.length = n) (hb : n ≤ 1048576) :
    Calls Try.prog 3 #[.int .u64 (v : Int), .slice A n c] w fun e w' => e = .returned (.bool true) ∧ Below w.heap.size w w' := by
  have KA := K.mk hA
  have KN := K.mk hn
  have KV := K.mk hv
  clear hA hn hv
  go_enter Try.func3, Try.ntmps3
  go_wp2_with fail
  refine (Ownb_calls A n c (bvs xs) 71 _ KA.out (by rw [bvs_length, KN.out]) (bvs_one xs) (by omega)).mono ?_
  rintro e w1 ⟨g, rfl, hO, hB⟩
  have KO := K.mk hO
  have KB1 := K.mk hB
  clear hO hB
  go_wp2_with fail
  refine (awake_calls _).mono ?_
  rintro e w2 ⟨rfl, hB⟩
  have KB2 := K.mk hB
  clear hB
  go_wp2_with fail
  refine (Num_calls v _ KV.out).mono ?_
  rintro e w3 ⟨u3, rfl, hO, hB⟩
  obtain ⟨A3, c3, rfl, hc3, hr3⟩ := own_rv hO
  have KR3 := K.mk hr3
  have KB3 := K.mk hB
  clear hO hB hr3 hc3
  go_wp2_with fail
  refine (RNum_calls v _ KV.out).mono ?_
  rintro e w4 ⟨u4, rfl, hO, hB⟩
  obtain ⟨A4, c4, rfl, hc4, hr4⟩ := own_rv hO
  have KR4 := K.mk hr4
  have KB4 := K.mk hB
  clear hO hB hr4 hc4
  go_wp2_with fail
  refine (Bytes_calls _ _ _ _ _ _ (num v) (num v) _ (KR3.out.below KB4.out) KR4.out rfl rfl).mono ?_
  rintro e w5 ⟨rfl, rfl⟩
  rw [decide_eq_true rfl]
  go_wp2_with fail
  have hA4 := (((KA.out.below KB1.out).below KB2.out).below KB3.out).below KB4.out
  have KO4 := K.mk (pwn (pwn (pwn KO.out KB2.out) KB3.out) KB4.out)
  have KA4 := K.mk hA4
  clear hA4
  refine (Text_calls _ _ _ xs _ (by simpa [bvs_length] using own_take KO4.out xs.length) KN.out (by omega)).mono ?_
  rintro e w6 ⟨u6, rfl, hO, hB⟩
  obtain ⟨A6, c6, rfl, hc6, hr6⟩ := own_rv hO
  have KR6 := K.mk hr6
  have KB6 := K.mk hB
  clear hO hB hr6 hc6
  go_wp2_with fail
  refine (RText_calls _ _ _ xs _ (KA4.out.below KB6.out) KN.out (by omega)).mono ?_
  rintro e w7 ⟨u7, rfl, hO, hB⟩
  obtain ⟨A7, c7, rfl, hc7, hr7⟩ := own_rv hO
  have KR7 := K.mk hr7
  have KB7 := K.mk hB
  clear hO hB hr7 hc7
  go_wp2_with fail
  refine (Bytes_calls _ _ _ _ _ _ (txt xs) (txt xs) _ (KR6.out.below KB7.out) KR7.out rfl rfl).mono ?_
  rintro e w8 ⟨rfl, rfl⟩
  rw [decide_eq_true rfl]
  go_wp2_with fail
  refine (Keptb_calls _ _ _ _ xs 71 _ ((own_rvg KO4.out).below KB6.out |>.below KB7.out) ((KA4.out.below KB6.out).below KB7.out) KN.out (by omega)).mono ?_
  rintro e w9 ⟨rfl, KD⟩
  go_wp2
  go_ret
  exact ⟨rfl, by have b1 := KB1.out; have b2 := KB2.out; have b3 := KB3.out; have b4 := KB4.out; have b6 := KB6.out; have b7 := KB7.out; exact (thn (thn (thn (thn (thn b1 b2) b3) b4) b6) b7).trans (KD.below _)⟩
end Go.Proofs.Ytmoffojjdbmoiaa.code
