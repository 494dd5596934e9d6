/- Walks over chapter 1: what Text writes. -/
import Derived.Test.YtmoffojjdbmoiaaBase
import Derived.Test.YtmoffojjdbmoiaaProg
set_option linter.unusedVariables false
set_option linter.unusedSimpArgs false
namespace Go.Proofs.Ytmoffojjdbmoiaa.code
open Go.RowKit Go.Proofs.Ytmoffojjdbmoiaa.b

theorem info5 : (Try.prog.info? 5).map (fun i => (i.zero, i.size, i.bytes)) = some (some (.int .u8 0), 1, 1) := by kernel_rfl

def tx : List UInt8 → List UInt8
  | [] => []
  | b :: r => if b = 0 then 0 :: 255 :: tx r else b :: tx r
def txt (l : List UInt8) : List UInt8 := tx l ++ [0, 1]
theorem tx_append (l r : List UInt8) : tx (l ++ r) = tx l ++ tx r := by
  induction l with
  | nil => rfl
  | cons b l ih => simp only [List.cons_append, tx, ih]; split <;> rfl
theorem tx_length (l : List UInt8) : (tx l).length ≤ 2 * l.length := by
  induction l with
  | nil => simp [tx]
  | cons b l ih => simp only [tx]; split <;> simp <;> omega
theorem take_snoc {α : Type} (l : List α) (k : Nat) (h : k < l.length) : l.take (k + 1) = l.take k ++ [l[k]] := by
  rw [List.take_succ_eq_append_getElem h]
theorem tx_snoc (l : List UInt8) (k : Nat) (h : k < l.length) : tx (l.take (k + 1)) = if l[k] = 0 then tx (l.take k) ++ [0] ++ [255] else tx (l.take k) ++ [l[k]] := by
  rw [take_snoc l k h, tx_append]
  by_cases e : l[k] = 0 <;> simp [tx, e]

set_option maxHeartbeats 1000000 in
theorem Text_calls (A : Option Addr) (n c : Nat) (xs : List UInt8) (w : World) (hA : Rv w A (bvs xs)) (hn : xs.length = n) (hb : n ≤ 1000000000) :
    Calls Try.prog 13 #[.slice A n c] w fun e w' => ∃ v, e = .returned v ∧ w'.ownsRow w.heap.size 5 1 v (txt xs).length (bvs (txt xs)) ∧ Below w.heap.size w w' := by
  have KA := K.mk hA
  clear hA
  subst hn
  go_enter Try.func13, Try.ntmps13
  go_wp2
  go_loopw [3, 8] (fun o i wr => ∃ k : Nat, k ≤ xs.length ∧ i = .int .i64 k ∧ K (wr.ownsRow w.heap.size 5 1 o (tx (xs.take k)).length (bvs (tx (xs.take k)))) ∧ K (Below w.heap.size w wr)) (fun _ i _ => xs.length - (intOf i).toNat)
  case atStart => exact ⟨0, Nat.zero_le _, rfl, ⟨by simpa [tx, bvs] using World.ownsRow_nil _ _ _ _⟩, ⟨Below.refl _ _⟩⟩
  case round =>
    obtain ⟨k, hk, rfl, KO, KB⟩ := hrel
    have hB := KB.out.size
    have hl := tx_length (xs.take k)
    have hl' : (xs.take k).length ≤ k := List.length_take_le _ _
    by_cases hlt : k < xs.length
    · obtain ⟨ad, rfl, hc⟩ := KA.out.byte k hlt
      have hc' := (KB.out.cell (World.block_lt_of_cell? w _ hc)).trans hc
      clear hc
      have KS := K.mk (tx_snoc xs k hlt)
      by_cases h0 : xs[k] = 0
      · have e0 : ((xs[k].toNat : Int) == 0) = true := by rw [h0]; rfl
        rw [if_pos h0] at KS
        have K0 := K.mk h0
        clear h0
        go_wp2_with (at_builtin; refine app1 rfl _ _ 23 5 (.int .u8 0) 1 1 rfl rfl info5 rfl (by decide) _ _ _ 1 1 [_] rfl rfl rfl (by assumption) (by assumption) (by omega) (by simp [Value.oneCell']) (by omega) (by omega) ?_; intro v1 w1 KO1 KB1 _; have hB1 := KB1.out.size)
        go_roundw
        case rel => exact ⟨k + 1, by omega, by go_num, ⟨by rw [KS.out]; simpa [bvs, K0.out, Nat.add_assoc] using KO1.out⟩, KB1⟩
        case measure => simp [intOf]; omega
      · have e0 : ((xs[k].toNat : Int) == 0) = false := by
          have : xs[k].toNat ≠ 0 := fun e => h0 (UInt8.toNat_inj.1 e)
          rw [beq_eq_false_iff_ne]; omega
        rw [if_neg h0] at KS
        clear h0
        go_wp2_with (at_builtin; refine app1 rfl _ _ 23 5 (.int .u8 0) 1 1 rfl rfl info5 rfl (by decide) _ _ _ 1 1 [_] rfl rfl rfl (by assumption) (by assumption) (by omega) (by simp [Value.oneCell']) (by omega) (by omega) ?_; intro v1 w1 KO1 KB1 _; have hB1 := KB1.out.size)
        go_roundw
        case rel => exact ⟨k + 1, by omega, by go_num, ⟨by rw [KS.out]; simpa [bvs] using KO1.out⟩, KB1⟩
        case measure => simp [intOf]; omega
    · have e : xs.take k = xs := List.take_of_length_le (by omega)
      rw [e] at KO hl hl'
      clear e
      go_wp2_with (at_builtin; refine app1 rfl _ _ 23 5 (.int .u8 0) 1 1 rfl rfl info5 rfl (by decide) _ _ _ 2 2 [_, _] rfl rfl rfl (by assumption) (by assumption) (by omega) (by simp [Value.oneCell']) (by omega) (by omega) ?_; intro v1 w1 KO1 KB1 _; have hB1 := KB1.out.size)
      go_ret
      exact ⟨_, rfl, by simpa [bvs, txt] using KO1.out, KB1.out⟩
end Go.Proofs.Ytmoffojjdbmoiaa.code
