/- Walks over chapter 1: where the text at a reader's place ends. -/
import Derived.Test.YtmoffojjdbmoiaaRead1
set_option linter.unusedVariables false
set_option linter.unusedSimpArgs false
namespace Go.Proofs.Ytmoffojjdbmoiaa.code
open Go.RowKit Go.Proofs.Ytmoffojjdbmoiaa.b
variable {S : Nat → Prop}

/-- Where the text at a place ends, and the fault. -/
def txtE (bs : List UInt8) (i : Nat) : Nat × Nat :=
  if h : i < bs.length then
    if bs[i] ≠ 0 then txtE bs (i + 1)
    else if h1 : i + 1 < bs.length then
      if bs[i + 1] = 1 then (i + 2, 0) else if bs[i + 1] = 255 then txtE bs (i + 2) else (0, 9)
    else (0, 8)
  else (0, 8)
termination_by bs.length - i
decreasing_by all_goals omega

set_option maxHeartbeats 2000000 in
theorem text_calls (g : Nat) (bs : List UInt8) (i : Nat) (w : World) (h : IsRd S w g bs i 0) (hi : i ≤ bs.length) (hb : bs.length ≤ 140737488351232) :
    Calls Try.prog 31 #[.pointer (some ⟨g, 0, none⟩)] w fun e w' => e = .returned (.tuple #[.int .i64 ((txtE bs i).1 : Int), .int .i64 ((txtE bs i).2 : Int)]) ∧ w' = w := by
  obtain ⟨A, c, hg, hA, hc, hne⟩ := h
  obtain ⟨c0, c1, c2, _, _⟩ := blk3 hg
  have KA := K.mk hA
  clear hg hA hne
  go_enter Try.func31, Try.ntmps31
  go_wp2
  go_loop [4] (fun v => ∃ k : Nat, k ≤ bs.length ∧ v = .int .i64 (k : Int) ∧ K (txtE bs i = txtE bs k)) (fun v => bs.length - (intOf v).toNat)
  case atStart => exact ⟨i, hi, rfl, ⟨rfl⟩⟩
  case round =>
    obtain ⟨k, hk, rfl, KE⟩ := hrel
    by_cases h1 : k < bs.length
    · obtain ⟨ad, rfl, hn⟩ := KA.out.byte k h1
      have KK : K (txtE bs k = if bs[k] ≠ 0 then txtE bs (k + 1) else if h1 : k + 1 < bs.length then (if bs[k + 1] = 1 then (k + 2, 0) else if bs[k + 1] = 255 then txtE bs (k + 2) else (0, 9)) else (0, 8)) := ⟨by rw [txtE, dif_pos h1]⟩
      by_cases h2 : bs[k] = 0
      · have b2 : ((bs[k].toNat : Int) != 0) = false := by rw [h2]; rfl
        replace KK := K.mk (KK.out.trans (if_neg (by simpa using h2)))
        clear h2
        by_cases h3 : k + 1 < bs.length
        · obtain ⟨_, e1, hm⟩ := KA.out.byte (k + 1) h3
          cases e1
          rw [add_succ] at hm
          replace KK := K.mk (KK.out.trans (dif_pos h3))
          by_cases h4 : bs[k + 1] = 1
          · have b4 : ((bs[k + 1].toNat : Int) == 1) = true := by rw [h4]; rfl
            replace KK := K.mk (KK.out.trans (if_pos h4))
            clear h4
            go_wp2
            go_ret2
            exact ⟨by rw [KE.out, KK.out]; simp; omega, rfl⟩
          · have b4 : ((bs[k + 1].toNat : Int) == 1) = false := by
              rw [beq_eq_false_iff_ne]; intro e; exact h4 (UInt8.toNat_inj.1 (by simpa using (by omega : bs[k + 1].toNat = 1)))
            replace KK := K.mk (KK.out.trans (if_neg h4))
            clear h4
            by_cases h5 : bs[k + 1] = 255
            · have b5 : ((bs[k + 1].toNat : Int) != 255) = false := by rw [h5]; rfl
              replace KK := K.mk (KK.out.trans (if_pos h5))
              clear h5
              go_wp2
              go_round
              case rel => exact ⟨k + 2, by omega, by go_num, ⟨by rw [KE.out, KK.out]⟩⟩
              case measure => simp [intOf]; omega
            · have b5 : ((bs[k + 1].toNat : Int) != 255) = true := by
                rw [bne_iff_ne]; intro e; exact h5 (UInt8.toNat_inj.1 (by simpa using (by omega : bs[k + 1].toNat = 255)))
              replace KK := K.mk (KK.out.trans (if_neg h5))
              clear h5
              go_wp2
              go_ret2
              exact ⟨by rw [KE.out, KK.out]; rfl, rfl⟩
        · replace KK := K.mk (KK.out.trans (dif_neg h3))
          go_wp2
          go_ret2
          exact ⟨by rw [KE.out, KK.out]; rfl, rfl⟩
      · have b2 : ((bs[k].toNat : Int) != 0) = true := by
          rw [bne_iff_ne]; intro e; exact h2 (UInt8.toNat_inj.1 (by simpa using e))
        replace KK := K.mk (KK.out.trans (if_pos h2))
        clear h2
        go_wp2
        go_round
        case rel => exact ⟨k + 1, by omega, by go_num, ⟨by rw [KE.out, KK.out]⟩⟩
        case measure => simp [intOf]; omega
    · have KK : K (txtE bs k = (0, 8)) := ⟨by rw [txtE, dif_neg h1]⟩
      go_wp2
      go_ret2
      exact ⟨by rw [KE.out, KK.out]; rfl, rfl⟩
end Go.Proofs.Ytmoffojjdbmoiaa.code
