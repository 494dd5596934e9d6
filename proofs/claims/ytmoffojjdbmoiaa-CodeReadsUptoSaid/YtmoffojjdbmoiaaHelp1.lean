/- Walks over the help package: lists of bytes held against each other. -/
import Derived.Test.YtmoffojjdbmoiaaBase
import Derived.Test.YtmoffojjdbmoiaaProg
set_option linter.unusedVariables false
set_option linter.unusedSimpArgs false
namespace Go.Proofs.Ytmoffojjdbmoiaa.help
open Go.RowKit Go.Proofs.Ytmoffojjdbmoiaa.b

theorem Plainb1_calls (x y : Int) (w : World) :
    Calls Try.prog 29 #[.int .u8 x, .int .u8 y] w fun e w' => e = .returned (.bool (x == y)) ∧ w' = w := by
  go_enter Try.func29, Try.ntmps29
  go_wp2
  go_ret
  exact ⟨rfl, rfl⟩

set_option maxHeartbeats 1000000 in
theorem Sameb_calls (A B : Option Addr) (n m c d : Nat) (xs ys : List UInt8) (w : World) (hA : Rv w A (bvs xs)) (hB : Rv w B (bvs ys)) (hn : xs.length = n) (hm : ys.length = m) (hb : n ≤ 281474976710656) (hb2 : m ≤ 281474976710656) :
    Calls Try.prog 28 #[.slice A n c, .slice B m d, .func (.func 29) #[] #[]] w fun e w' => e = .returned (.bool (decide (xs = ys))) ∧ Dr w w' := by
  have KA := K.mk hA
  have KB := K.mk hB
  clear hA hB
  subst hn; subst hm
  by_cases hl : xs.length = ys.length
  · have KL := K.mk hl
    have hle : ((xs.length : Int) != ys.length) = false := by rw [hl]; simp
    clear hl
    go_enter Try.func28, Try.ntmps28
    go_wp2
    go_loopw [7] (fun i wr => ∃ k : Nat, k ≤ xs.length ∧ i = .int .i64 k ∧ K (xs.take k = ys.take k) ∧ K (Dr w wr)) (fun i _ => xs.length - (intOf i).toNat)
    case atStart => exact ⟨0, Nat.zero_le _, rfl, ⟨rfl⟩, ⟨Dr.refl _⟩⟩
    case round =>
      obtain ⟨k, hk, rfl, KT, KD⟩ := hrel
      by_cases hlt : k < xs.length
      · obtain ⟨ad, rfl, hc⟩ := (KD.out.rv KA.out).byte k hlt
        have hlt2 : k < ys.length := by rw [← KL.out]; exact hlt
        obtain ⟨bd, rfl, hd⟩ := (KD.out.rv KB.out).byte k hlt2
        by_cases he : xs[k] = ys[k]
        · have e1 : ((xs[k].toNat : Int) == ys[k].toNat) = true := by rw [he]; simp
          have KT1 : K (xs.take (k + 1) = ys.take (k + 1)) := ⟨by rw [List.take_succ_eq_append_getElem hlt, List.take_succ_eq_append_getElem hlt2, KT.out, he]⟩
          clear he
          go_wp2
          go_quiet ((go_at_call 29; exact Calls.quiet_of_same (Plainb1_calls _ _ _)))
          go_wp2
          go_roundw
          case rel => exact ⟨k + 1, by omega, by go_num, KT1, ⟨KD.out.step _⟩⟩
          case measure => simp [intOf]; omega
        · have e1 : ((xs[k].toNat : Int) == ys[k].toNat) = false := by
            rw [beq_eq_false_iff_ne]; intro e; exact he (UInt8.toNat_inj.1 (by omega))
          have KE : K (decide (xs = ys) = false) := ⟨by rw [decide_eq_false_iff_not]; intro e; exact he (by simp [e])⟩
          clear he
          go_wp2
          go_quiet ((go_at_call 29; exact Calls.quiet_of_same (Plainb1_calls _ _ _)))
          go_wp2
          go_ret
          exact ⟨by rw [KE.out]; rfl, KD.out.step _⟩
      · have KE : K (decide (xs = ys) = true) := ⟨by
          rw [decide_eq_true_eq]
          have h1 := KT.out
          rw [List.take_of_length_le (by omega), List.take_of_length_le (by rw [← KL.out]; omega)] at h1
          exact h1⟩
        go_wp2
        go_ret
        exact ⟨by rw [KE.out]; rfl, KD.out⟩
  · have KE : K (decide (xs = ys) = false) := ⟨by rw [decide_eq_false_iff_not]; intro e; exact hl (by simp [e])⟩
    have hle : ((xs.length : Int) != ys.length) = true := by rw [bne_iff_ne]; omega
    clear hl
    go_enter Try.func28, Try.ntmps28
    go_wp2
    go_ret
    exact ⟨by rw [KE.out]; rfl, Dr.refl _⟩

theorem Plainb_calls (A B : Option Addr) (n m c d : Nat) (xs ys : List UInt8) (w : World) (hA : Rv w A (bvs xs)) (hB : Rv w B (bvs ys)) (hn : xs.length = n) (hm : ys.length = m) (hb : n ≤ 281474976710656) (hb2 : m ≤ 281474976710656) :
    Calls Try.prog 26 #[.slice A n c, .slice B m d] w fun e w' => e = .returned (.bool (decide (xs = ys))) ∧ Dr w w' := by
  have H := K.mk (Sameb_calls A B n m c d xs ys w hA hB hn hm hb hb2)
  clear hA hB hn hm
  go_enter Try.func26, Try.ntmps26
  go_wp2_with (go_at_call 28; refine H.out.mono ?_; rintro e w' ⟨rfl, hd⟩)
  go_ret
  exact ⟨rfl, hd⟩

theorem Bytes_calls (A B : Option Addr) (n m c d : Nat) (xs ys : List UInt8) (w : World) (hA : Rv w A (bvs xs)) (hB : Rv w B (bvs ys)) (hn : xs.length = n) (hm : ys.length = m) :
    Calls Try.prog 10 #[.slice A n c, .slice B m d] w fun e w' => e = .returned (.bool (decide (xs = ys))) ∧ w' = w := by
  have h1 := b.conv Try.prog w 23 5 9 rfl rfl rfl A n c xs hA hn
  have h2 := b.conv Try.prog w 23 5 9 rfl rfl rfl B m d ys hB hm
  clear hA hB hn hm
  go_enter Try.func10, Try.ntmps10
  go_wp2
  go_ret
  refine ⟨?_, rfl⟩
  have e : (xs == ys) = decide (xs = ys) := by rw [Bool.eq_iff_iff]; simp
  simp [e]
end Go.Proofs.Ytmoffojjdbmoiaa.help
