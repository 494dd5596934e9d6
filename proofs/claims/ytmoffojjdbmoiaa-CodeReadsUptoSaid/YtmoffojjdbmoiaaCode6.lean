/- Walks over chapter 1: the law CodeNil. -/
import Derived.Test.YtmoffojjdbmoiaaRead5
import Derived.Test.YtmoffojjdbmoiaaCode4
set_option linter.unusedVariables false
set_option linter.unusedSimpArgs false
namespace Go.Proofs.Ytmoffojjdbmoiaa.code
open Go.RowKit Go.Proofs.Ytmoffojjdbmoiaa.b Go.Proofs.Ytmoffojjdbmoiaa.help
variable {S : Nat → Prop}

theorem RdNum_nil (w : World) :
    Calls Try.prog 20 #[.pointer none] w fun e w' => e = .returned (.int .u64 0) ∧ w' = w := by
  go_enter Try.func20, Try.ntmps20
  go_wp2_with (go_at_call 27; refine (take_nil 0 _).mono ?_; rintro e w1 ⟨rfl, rfl⟩)
  refine wp_loop_rounds 1 ?_
  rw [rounds_succ]
  go_wp2
  go_ret
  exact ⟨rfl, rfl⟩
theorem RdText_nil (w : World) :
    Calls Try.prog 18 #[.pointer none] w fun e w' => e = .returned (.slice none 0 0) ∧ w' = w := by
  go_enter Try.func18, Try.ntmps18
  go_wp2_with (go_at_call 27; refine (take_nil 1 _).mono ?_; rintro e w1 ⟨rfl, rfl⟩)
  refine wp_loop_rounds 1 ?_
  rw [rounds_succ]
  go_wp2
  go_ret
  exact ⟨rfl, rfl⟩
theorem CodeNil_calls (A : Option Addr) (n c : Nat) (xs : List UInt8) (w : World) (hA : Rv w A (bvs xs)) (hn : xs.length = n) (hb : n ≤ 140737488351232) :
    Calls Try.prog 6 #[.slice A n c] w fun e w' => e = .returned (.bool true) ∧ Below w.heap.size w w' := by
  have KA := K.mk hA
  have KN := K.mk hn
  clear hA hn
  go_enter Try.func6, Try.ntmps6
  go_wp2_with (first
    | (go_at_call 9; refine (awake_calls _).mono ?_; rintro e w1 ⟨rfl, hB⟩; have KB := K.mk hB; clear hB)
    | (go_at_call 20; refine (RdNum_nil _).mono ?_; rintro e w2 ⟨rfl, rfl⟩)
    | (go_at_call 18; refine (RdText_nil _).mono ?_; rintro e w2 ⟨rfl, rfl⟩)
    | (go_at_call 22; refine (Left_nil _).mono ?_; rintro e w2 ⟨rfl, rfl⟩)
    | (go_at_call 23; refine (Err_nil _).mono ?_; rintro e w2 ⟨rfl, rfl⟩)
    | (go_at_call 24; refine (End_nil _).mono ?_; rintro e w2 ⟨rfl, rfl⟩)
    | (go_at_call 16; refine (New_calls A n c xs _ (KA.out.below KB.out) KN.out hb).mono ?_; rintro e w3 ⟨g, rfl, hg, hI, hB⟩; have KB3 := K.mk hB; have KI := K.mk hI; clear hB hI))
  go_ret
  exact ⟨rfl, thn KB.out KB3.out⟩
end Go.Proofs.Ytmoffojjdbmoiaa.code
