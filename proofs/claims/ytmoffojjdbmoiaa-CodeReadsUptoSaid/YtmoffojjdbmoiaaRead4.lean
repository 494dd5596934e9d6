/- Walks over chapter 1: a reader's Num and Text, what is left, the fault. -/
import Derived.Test.YtmoffojjdbmoiaaRead3
set_option linter.unusedVariables false
set_option linter.unusedSimpArgs false
namespace Go.Proofs.Ytmoffojjdbmoiaa.code
open Go.RowKit Go.Proofs.Ytmoffojjdbmoiaa.b
variable {S : Nat → Prop}

/-- What take hands out, the place and the fault behind it. -/
def takeP (E : List UInt8 → Nat → Nat × Nat) (bs : List UInt8) (i er : Nat) : List UInt8 × Nat × Nat :=
  if er ≠ 0 then ([], i, er) else if (E bs i).2 ≠ 0 then ([], i, (E bs i).2) else ((bs.take (E bs i).1).drop i, (E bs i).1, 0)
theorem takeP_len (E : List UInt8 → Nat → Nat × Nat) (bs : List UInt8) (i : Nat) (hle : (E bs i).1 ≤ bs.length) : ((bs.take (E bs i).1).drop i).length = (E bs i).1 - i := by
  simp; omega
def dec (l : List UInt8) : Nat := l.foldl (fun v b => v * 256 + b.toNat) 0
theorem dec_snoc (l : List UInt8) (b : UInt8) : dec (l ++ [b]) = dec l * 256 + b.toNat := by simp [dec]
theorem dec_lt (l : List UInt8) : dec l < 256 ^ l.length := by
  rcases List.eq_nil_or_concat l with rfl | ⟨r, b, rfl⟩
  · simp [dec]
  · have ih := dec_lt r
    rw [List.concat_eq_append, dec_snoc, List.length_append, List.length_singleton, Nat.pow_succ]
    have := UInt8.toNat_lt b
    omega
termination_by l.length
decreasing_by all_goals (subst_vars; simp)
/-- The bytes of a text, out of what was written. -/
def un (l : List UInt8) : List UInt8 :=
  match l with
  | [] => []
  | c :: r => if r.length < 2 then [] else if c = 0 then 0 :: un (r.drop 1) else c :: un r
termination_by l.length
decreasing_by all_goals (simp; try omega)
def numP (bs : List UInt8) (i er : Nat) : Nat × Nat × Nat := (dec (takeP numE bs i er).1.tail, (takeP numE bs i er).2)
def textP (bs : List UInt8) (i er : Nat) : List UInt8 × Nat × Nat := (un (takeP txtE bs i er).1, (takeP txtE bs i er).2)
theorem or_step (v : Nat) (b : UInt8) (h : v < 256 ^ 7) : bits BinOp.or .u64 (IntKind.u64.wrap ((v : Int) * 256)) (IntKind.u64.wrap (b.toNat : Int)) = ((v * 256 + b.toNat : Nat) : Int) := by
  have hb := UInt8.toNat_lt b
  rw [IntKind.wrap_u64, IntKind.wrap_u64, Int.emod_eq_of_lt (by omega) (by omega), Int.emod_eq_of_lt (by omega) (by omega)]
  have e : (v : Int) * 256 = ((v * 256 : Nat) : Int) := by simp
  rw [e, u64_or_nat _ _ (by omega) (by omega)]
  congr 1
  have := Nat.two_pow_add_eq_or_of_lt (i := 8) (b := b.toNat) (by simpa using hb) v
  rw [Nat.mul_comm]
  exact this.symm

theorem take_num_any (g : Nat) (bs : List UInt8) (i er : Nat) (w : World) (h : IsRd S w g bs i er) (hi : i ≤ bs.length) (hb : bs.length ≤ 140737488351232) :
    Calls Try.prog 27 #[.pointer (some ⟨g, 0, none⟩), .int .i64 0] w fun e w' => ∃ A n c, e = .returned (.slice A n c) ∧ n = (takeP numE bs i er).1.length ∧ Rv w' A (bvs (takeP numE bs i er).1) ∧ IsRd S w' g bs (takeP numE bs i er).2.1 (takeP numE bs i er).2.2 ∧ w.grownBy w' (some g) := by
  unfold takeP
  by_cases h1 : er = 0
  · subst h1
    by_cases h2 : (numE bs i).2 = 0
    · refine (take_num g bs i w h hi hb h2).mono ?_
      rintro e w1 ⟨A, c, rfl, k1, k2, k3⟩
      rw [if_neg (by simp), if_neg (by simpa using h2)]
      exact ⟨A, _, c, rfl, (takeP_len numE bs i (numE_le bs i h2).2).symm, k1, k2, k3⟩
    · refine (take_numbad g bs i w h hi hb h2).mono ?_
      rintro e w1 ⟨rfl, k2, k3⟩
      rw [if_neg (by simp), if_pos h2]
      exact ⟨_, _, _, rfl, rfl, Rv.nil _ _, k2, k3⟩
  · refine (take_err 0 g bs i er w h h1).mono ?_
    rintro e w1 ⟨rfl, rfl⟩
    rw [if_pos h1]
    exact ⟨_, _, _, rfl, rfl, Rv.nil _ _, h, World.grownBy.refl _ _⟩
theorem take_text_any (g : Nat) (bs : List UInt8) (i er : Nat) (w : World) (h : IsRd S w g bs i er) (hi : i ≤ bs.length) (hb : bs.length ≤ 140737488351232) :
    Calls Try.prog 27 #[.pointer (some ⟨g, 0, none⟩), .int .i64 1] w fun e w' => ∃ A n c, e = .returned (.slice A n c) ∧ n = (takeP txtE bs i er).1.length ∧ Rv w' A (bvs (takeP txtE bs i er).1) ∧ IsRd S w' g bs (takeP txtE bs i er).2.1 (takeP txtE bs i er).2.2 ∧ w.grownBy w' (some g) := by
  unfold takeP
  by_cases h1 : er = 0
  · subst h1
    by_cases h2 : (txtE bs i).2 = 0
    · refine (take_text g bs i w h hi hb h2).mono ?_
      rintro e w1 ⟨A, c, rfl, k1, k2, k3⟩
      rw [if_neg (by simp), if_neg (by simpa using h2)]
      exact ⟨A, _, c, rfl, (takeP_len txtE bs i (txtE_le bs i h2).2).symm, k1, k2, k3⟩
    · refine (take_textbad g bs i w h hi hb h2).mono ?_
      rintro e w1 ⟨rfl, k2, k3⟩
      rw [if_neg (by simp), if_pos h2]
      exact ⟨_, _, _, rfl, rfl, Rv.nil _ _, k2, k3⟩
  · refine (take_err 1 g bs i er w h h1).mono ?_
    rintro e w1 ⟨rfl, rfl⟩
    rw [if_pos h1]
    exact ⟨_, _, _, rfl, rfl, Rv.nil _ _, h, World.grownBy.refl _ _⟩
theorem takeP_le (bs : List UInt8) (i er : Nat) : (takeP numE bs i er).1.length ≤ 9 := by
  unfold takeP
  split
  · simp
  · split
    · simp
    · rename_i h1 h2
      have h3 : (numE bs i).2 = 0 := by simpa using h2
      rw [takeP_len numE bs i (numE_le bs i h3).2]
      unfold numE at h3 ⊢
      split
      · simp
      · rename_i n e
        rw [e] at h3
        simp only at h3 ⊢
        split
        · simp
        · split
          · simp
          · split
            · simp
            · simp; omega

set_option maxHeartbeats 2000000 in
theorem RdNum_calls (g : Nat) (bs : List UInt8) (i er : Nat) (w : World) (h : IsRd S w g bs i er) (hi : i ≤ bs.length) (hb : bs.length ≤ 140737488351232) :
    Calls Try.prog 20 #[.pointer (some ⟨g, 0, none⟩)] w fun e w' => e = .returned (.int .u64 ((numP bs i er).1 : Int)) ∧ IsRd S w' g bs (numP bs i er).2.1 (numP bs i er).2.2 ∧ w.grownBy w' (some g) := by
  have KT := K.mk (take_num_any g bs i er w h hi hb)
  have hl := takeP_le bs i er
  clear h
  unfold numP
  generalize takeP numE bs i er = T at KT hl
  obtain ⟨ys, T2⟩ := T
  go_enter Try.func20, Try.ntmps20
  go_wp2_with fail
  refine KT.out.mono ?_
  rintro e w1 ⟨A, n, c, rfl, rfl, hA, hI, hG⟩
  have KA := K.mk hA
  have KI := K.mk hI
  have KG := K.mk hG
  clear hA hI hG
  simp only at hl KA KI ⊢
  go_wp2_with fail
  go_loop [3, 5] (fun v k => ∃ m : Nat, 1 ≤ m ∧ (m ≤ ys.length ∨ m = 1) ∧ k = .int .i64 (m : Int) ∧ v = .int .u64 (dec ((ys.take m).tail) : Int)) (fun _ k => ys.length - (intOf k).toNat)
  case atStart => exact ⟨1, by omega, by omega, rfl, by cases ys <;> simp [dec]⟩
  case round =>
    obtain ⟨m, hm1, hm2, rfl, rfl⟩ := hrel
    by_cases hlt : m < ys.length
    · obtain ⟨ad, rfl, hc⟩ := KA.out.byte m hlt
      have KS : K ((ys.take (m + 1)).tail = (ys.take m).tail ++ [ys[m]]) := ⟨by
        rw [List.take_succ_eq_append_getElem hlt, ← List.drop_one, ← List.drop_one, List.drop_append_of_le_length (by simp; omega)]⟩
      have KL : K (dec ((ys.take m).tail) < 256 ^ 7) := ⟨by
        have h1 := dec_lt ((ys.take m).tail)
        have h2 : ((ys.take m).tail).length ≤ 7 := by simp; omega
        exact Nat.lt_of_lt_of_le h1 (Nat.pow_le_pow_right (by omega) h2)⟩
      go_wp2
      go_round
      case rel => exact ⟨m + 1, by omega, by omega, by go_num, by rw [KS.out, dec_snoc, ← or_step _ _ KL.out]⟩
      case measure => simp [intOf]; omega
    · have e : ys.take m = ys := List.take_of_length_le (by omega)
      rw [e]
      clear e
      go_wp2
      go_ret
      exact ⟨rfl, KI.out, KG.out⟩
end Go.Proofs.Ytmoffojjdbmoiaa.code
