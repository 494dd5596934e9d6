/- Walks over chapter 1: what the reference's Num and Text write. -/
import Derived.Test.YtmoffojjdbmoiaaCode2
set_option linter.unusedVariables false
set_option linter.unusedSimpArgs false
namespace Go.Proofs.Ytmoffojjdbmoiaa.code
open Go.RowKit Go.Proofs.Ytmoffojjdbmoiaa.b

theorem pow8 (k : Nat) : (2 : Int) ^ (8 * k) = ((256 ^ k : Nat) : Int) := by
  induction k with
  | zero => rfl
  | succ k ih => rw [show 8 * (k + 1) = 8 * k + 8 by omega, Int.pow_add, ih, Nat.pow_succ]; simp
theorem shr8 (v k : Nat) : (v : Int) / 2 ^ (8 * k) = ((v / 256 ^ k : Nat) : Int) := by rw [pow8]; simp
theorem be_le (v k x : Nat) (hv : v < 256 ^ 8) (h : v / 256 ^ k = x) : (be x).length ≤ 8 :=
  be_length 8 x (Nat.lt_of_le_of_lt (by rw [← h]; exact Nat.div_le_self _ _) hv)

set_option maxHeartbeats 1000000 in
theorem RText_calls (A : Option Addr) (n c : Nat) (xs : List UInt8) (w : World) (hA : Rv w A (bvs xs)) (hn : xs.length = n) (hb : n ≤ 1000000000) :
    Calls Try.prog 14 #[.slice A n c] w fun e w' => ∃ v, e = .returned v ∧ w'.ownsRow w.heap.size 5 1 v (txt xs).length (bvs (txt xs)) ∧ Below w.heap.size w w' := by
  have KA := K.mk hA
  clear hA
  subst hn
  go_enter Try.func14, Try.ntmps14
  go_wp2
  go_loopw [3, 4] (fun o i wr => ∃ k : Nat, k ≤ xs.length ∧ i = .int .i64 k ∧ K (wr.ownsRow w.heap.size 5 1 o (tx (xs.take k)).length (bvs (tx (xs.take k)))) ∧ K (Below w.heap.size w wr)) (fun _ i _ => xs.length - (intOf i).toNat)
  case atStart => exact ⟨0, Nat.zero_le _, rfl, ⟨by simpa [tx, bvs] using World.ownsRow_nil _ _ _ _⟩, ⟨Below.refl _ _⟩⟩
  case round =>
    obtain ⟨k, hk, rfl, KO, KB⟩ := hrel
    have hB := KB.out.size
    have hl := tx_length (xs.take k)
    have hl' : (xs.take k).length ≤ k := List.length_take_le _ _
    by_cases hlt : k < xs.length
    · obtain ⟨ad, rfl, hc⟩ := KA.out.byte k hlt
      have KC := K.mk hc
      have hc' := (KB.out.cell (World.block_lt_of_cell? w _ hc)).trans hc
      clear hc
      have KS := K.mk (tx_snoc xs k hlt)
      by_cases h0 : xs[k] = 0
      · have e0 : ((xs[k].toNat : Int) == 0) = true := by rw [h0]; rfl
        rw [if_pos h0] at KS
        have K0 := K.mk h0
        clear h0
        go_wp2_with (at_builtin; refine app1 rfl _ _ 23 5 (.int .u8 0) 1 1 rfl rfl info5 rfl (by decide) _ _ _ 1 1 [_] rfl rfl rfl (by assumption) (by assumption) (by omega) (by simp [Value.oneCell']) (by omega) (by omega) ?_; intro v1 w1 KO1 KB1 _; have hB1 := KB1.out.size; have hc1 := (KB1.out.cell (World.block_lt_of_cell? w _ KC.out)).trans KC.out)
        go_roundw
        case rel => exact ⟨k + 1, by omega, by go_num, ⟨by rw [KS.out]; simpa [bvs, K0.out, Nat.add_assoc] using KO1.out⟩, KB1⟩
        case measure => simp [intOf]; omega
      · have e0 : ((xs[k].toNat : Int) == 0) = false := by
          have : xs[k].toNat ≠ 0 := fun e => h0 (UInt8.toNat_inj.1 e)
          rw [beq_eq_false_iff_ne]; omega
        rw [if_neg h0] at KS
        clear h0
        go_wp2_with (at_builtin; refine app1 rfl _ _ 23 5 (.int .u8 0) 1 1 rfl rfl info5 rfl (by decide) _ _ _ 1 1 [_] rfl rfl rfl (by assumption) (by assumption) (by omega) (by simp [Value.oneCell']) (by omega) (by omega) ?_; intro v1 w1 KO1 KB1 _; have hB1 := KB1.out.size; have hc1 := (KB1.out.cell (World.block_lt_of_cell? w _ KC.out)).trans KC.out)
        go_roundw
        case rel => exact ⟨k + 1, by omega, by go_num, ⟨by rw [KS.out]; simpa [bvs, Nat.add_assoc] using KO1.out⟩, KB1⟩
        case measure => simp [intOf]; omega
    · have e : xs.take k = xs := List.take_of_length_le (by omega)
      rw [e] at KO hl hl'
      clear e
      go_wp2_with (at_builtin; refine app1 rfl _ _ 23 5 (.int .u8 0) 1 1 rfl rfl info5 rfl (by decide) _ _ _ 2 2 [_, _] rfl rfl rfl (by assumption) (by assumption) (by omega) (by simp [Value.oneCell']) (by omega) (by omega) ?_; intro v1 w1 KO1 KB1 _; have hB1 := KB1.out.size)
      go_ret
      exact ⟨_, rfl, by simpa [bvs, txt] using KO1.out, KB1.out⟩

set_option maxHeartbeats 1000000 in
theorem RNum_calls (v : Nat) (w : World) (hv : v < 256 ^ 8) :
    Calls Try.prog 12 #[.int .u64 (v : Int)] w fun e w' => ∃ u, e = .returned u ∧ w'.ownsRow w.heap.size 5 1 u (num v).length (bvs (num v)) ∧ Below w.heap.size w w' := by
  have KV := K.mk hv
  clear hv
  go_enter Try.func12, Try.ntmps12
  go_wp2
  go_loopw [3, 4] (fun o i wr => ∃ j : Nat, j ≤ 8 ∧ i = .int .i64 ((j : Int) - 1) ∧ K (wr.ownsRow w.heap.size 5 1 o (be (v / 256 ^ j)).length (bvs (be (v / 256 ^ j)))) ∧ K (Below w.heap.size w wr)) (fun _ i _ => (intOf i + 1).toNat)
  case atStart => exact ⟨8, by omega, rfl, ⟨by rw [Nat.div_eq_of_lt KV.out, be_zero]; simpa [bvs] using World.ownsRow_nil _ _ _ _⟩, ⟨Below.refl _ _⟩⟩
  case round =>
    obtain ⟨j, hj, rfl, KO, KB⟩ := hrel
    have hB := KB.out.size
    by_cases hj0 : 0 < j
    · obtain ⟨k, rfl⟩ : ∃ k, j = k + 1 := ⟨j - 1, by omega⟩
      have e1 : ((k + 1 : Nat) : Int) - 1 = (k : Int) := by omega
      rw [e1]
      clear e1
      have KX : K (v / 256 ^ (k + 1) = v / 256 ^ k / 256) := ⟨by rw [Nat.pow_succ, Nat.div_div_eq_div_mul]⟩
      have KE : K ((v : Int) / 2 ^ (8 * k) = ((v / 256 ^ k : Nat) : Int)) := ⟨shr8 v k⟩
      rw [KX.out] at KO
      generalize hx : v / 256 ^ k = x at KX KE KO
      have KW := K.mk hx
      clear hx
      obtain ⟨A, c, rfl, hc, _⟩ := own_rv KO.out
      have hlen : (be x).length ≤ 8 := be_le v k x KV.out KW.out
      by_cases hx0 : x = 0
      · have KZ := K.mk hx0
        have hz : (v : Int) / 2 ^ (8 * k) % 256 = 0 := by rw [KE.out, hx0]; rfl
        have hl0 : (be (x / 256)).length = 0 := by rw [hx0]; simp [be_zero]
        clear hx0
        go_wp2
        go_roundw
        case rel => exact ⟨k, by omega, by simp, ⟨by rw [KW.out]; rw [KZ.out] at KO ⊢; exact KO.out⟩, KB⟩
        case measure => simp [intOf]
      · have hp : be x = be (x / 256) ++ [UInt8.ofNat x] := be_pos (by omega)
        have KP := K.mk hp
        rw [hp, List.length_append, List.length_singleton] at hlen
        clear hp
        by_cases hz : (v : Int) / 2 ^ (8 * k) % 256 = 0
        · have hpos : 0 < (be (x / 256)).length := by
            have : 0 < x / 256 := by rw [KE.out] at hz; omega
            rw [be_pos this]; simp
          have KZ := K.mk hz
          go_wp2_with (at_builtin; refine app1 rfl _ _ 23 5 (.int .u8 0) 1 1 rfl rfl info5 rfl (by decide) _ _ _ 1 1 [_] rfl rfl rfl (by assumption) (by assumption) (by omega) (by simp [Value.oneCell']) (by omega) (by omega) ?_; intro v1 w1 KO1 KB1 _; have hB1 := KB1.out.size)
          go_roundw
          case rel => exact ⟨k, by omega, by simp, ⟨by rw [KW.out, KP.out, bvs_append, bvs_cons, ofNat_cast, ← KE.out, KZ.out]; simpa [bvs] using KO1.out⟩, KB1⟩
          case measure => simp [intOf]
        · go_wp2_with (at_builtin; refine app1 rfl _ _ 23 5 (.int .u8 0) 1 1 rfl rfl info5 rfl (by decide) _ _ _ 1 1 [_] rfl rfl rfl (by assumption) (by assumption) (by omega) (by simp [Value.oneCell']) (by omega) (by omega) ?_; intro v1 w1 KO1 KB1 _; have hB1 := KB1.out.size)
          go_roundw
          case rel => exact ⟨k, by omega, by simp, ⟨by rw [KW.out, KP.out, bvs_append, bvs_cons, ofNat_cast, ← KE.out]; simpa [bvs] using KO1.out⟩, KB1⟩
          case measure => simp [intOf]
    · have h0 : j = 0 := by omega
      subst h0
      rw [Nat.pow_zero, Nat.div_one] at KO
      have hr := be_length 8 v KV.out
      obtain ⟨A, c, rfl, hc, hrv⟩ := own_rv KO.out
      have KA := K.mk hrv
      clear hrv
      have em : ((0 : Nat) : Int) - 1 = -1 := rfl
      rw [em]
      clear em
      go_wp2_with (at_builtin; refine appLit rfl _ _ 23 5 (.int .u8 0) 1 1 rfl rfl info5 rfl (by decide) 1 [_] _ _ _ (bvs (be v)) rfl rfl rfl (by simp [bvs]) (by assumption) (by omega) (by assumption) (bvs_one _) (by omega) (by omega) ?_; intro v1 w1 KO1 KB1; have hB1 := KB1.out.size)
      go_ret
      exact ⟨_, rfl, by have := KO1.out; rw [num, bvs_cons, ofNat_cast, Int.emod_eq_of_lt (by omega) (by omega)]; simpa [Nat.add_comm] using this, KB1.out⟩
end Go.Proofs.Ytmoffojjdbmoiaa.code
