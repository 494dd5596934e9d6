/- Walks over chapter 1: what Num writes. -/
import Derived.Test.YtmoffojjdbmoiaaCode1
set_option linter.unusedVariables false
set_option linter.unusedSimpArgs false
namespace Go.Proofs.Ytmoffojjdbmoiaa.code
open Go.RowKit Go.Proofs.Ytmoffojjdbmoiaa.b

/-- The bytes of a number, none for 0. -/
def be (v : Nat) : List UInt8 := if h : v = 0 then [] else be (v / 256) ++ [UInt8.ofNat v]
termination_by v
decreasing_by omega
theorem be_zero : be 0 = [] := by rw [be]; simp
theorem be_pos {v : Nat} (h : 0 < v) : be v = be (v / 256) ++ [UInt8.ofNat v] := by rw [be]; simp [show v ≠ 0 by omega]
theorem be_length (k : Nat) : ∀ v, v < 256 ^ k → (be v).length ≤ k := by
  induction k with
  | zero =>
    intro v h
    have : v = 0 := by omega
    subst this
    rw [be_zero]; simp
  | succ k ih =>
    intro v h
    by_cases h0 : 0 < v
    · rw [be_pos h0, List.length_append, List.length_singleton]
      have := ih (v / 256) (by rw [Nat.pow_succ] at h; omega)
      omega
    · have : v = 0 := by omega
      subst this; simp [be_zero]
def num (v : Nat) : List UInt8 := UInt8.ofNat (be v).length :: be v

set_option maxHeartbeats 1000000 in
theorem Num_calls (v : Nat) (w : World) (hv : v < 256 ^ 8) :
    Calls Try.prog 11 #[.int .u64 (v : Int)] w fun e w' => ∃ u, e = .returned u ∧ w'.ownsRow w.heap.size 5 1 u (num v).length (bvs (num v)) ∧ Below w.heap.size w w' := by
  have KV := K.mk hv
  clear hv
  go_enter Try.func11, Try.ntmps11
  go_wp2
  go_loopw [0, 3] (fun n o wr => ∃ (k : Nat) (r : List UInt8), n = .int .u64 (k : Int) ∧ K (be v = be k ++ r) ∧ K (wr.ownsRow w.heap.size 5 1 o r.length (bvs r)) ∧ K (Below w.heap.size w wr)) (fun n _ _ => (intOf n).toNat)
  case atStart => exact ⟨v, [], rfl, ⟨by simp⟩, ⟨by simpa [bvs] using World.ownsRow_nil _ _ _ _⟩, ⟨Below.refl _ _⟩⟩
  case round =>
    obtain ⟨k, r, rfl, KR, KO, KB⟩ := hrel
    have hB := KB.out.size
    have hr : r.length ≤ 8 := by
      have := be_length 8 v KV.out
      rw [KR.out, List.length_append] at this
      omega
    obtain ⟨A, c, rfl, hc, hrv⟩ := own_rv KO.out
    have KA := K.mk hrv
    clear hrv
    by_cases hk : 0 < k
    · go_wp2_with (at_builtin; refine appLit rfl _ _ 23 5 (.int .u8 0) 1 1 rfl rfl info5 rfl (by decide) 1 [_] _ _ _ (bvs r) rfl rfl rfl (by simp [bvs]) (by assumption) (by omega) (by assumption) (bvs_one _) (by omega) (by omega) ?_; intro v1 w1 KO1 KB1; have hB1 := KB1.out.size)
      go_roundw
      case rel => exact ⟨k / 256, UInt8.ofNat k :: r, by simp, ⟨by rw [KR.out, be_pos hk]; simp⟩, ⟨by have := KO1.out; rw [bvs_cons, ofNat_cast]; simpa [Nat.add_comm] using this⟩, KB1⟩
      case measure => simp [intOf]; omega
    · have h0 : k = 0 := by omega
      have KE : K (be v = r) := ⟨by rw [KR.out, h0, be_zero]; rfl⟩
      clear h0
      go_wp2_with (at_builtin; refine appLit rfl _ _ 23 5 (.int .u8 0) 1 1 rfl rfl info5 rfl (by decide) 1 [_] _ _ _ (bvs r) rfl rfl rfl (by simp [bvs]) (by assumption) (by omega) (by assumption) (bvs_one _) (by omega) (by omega) ?_; intro v1 w1 KO1 KB1; have hB1 := KB1.out.size)
      go_ret
      exact ⟨_, rfl, by have := KO1.out; rw [num, KE.out, bvs_cons, ofNat_cast, Int.emod_eq_of_lt (by omega) (by omega)]; simpa [Nat.add_comm] using this, KB1.out⟩
end Go.Proofs.Ytmoffojjdbmoiaa.code
