/- Walks over chapter 8: the reader of a stamp's zone. -/
import Derived.Test.YtdeegjhnomdepaaSt3
set_option linter.unusedVariables false
set_option linter.unusedSimpArgs false
namespace Go.Proofs.Ytdeegjhnomdepaa.st
open Go.RowKit Go.Proofs.Ytdeegjhnomdepaa.b

def zonV (a b c d e : UInt8) : Int := if a = 45 then -((60 * numV [b, c] + numV [d, e] : Nat) : Int) else ((60 * numV [b, c] + numV [d, e] : Nat) : Int)
def zonB (a b c d e : UInt8) : Bool := (digs [b, c] 0).isNone || (digs [d, e] 0).isNone || decide ((a ≠ 43 ∧ a ≠ 45) ∨ (a = 45 ∧ 60 * numV [b, c] + numV [d, e] = 0) ∨ 59 < numV [d, e])
theorem digs_lt (ys : List UInt8) : ∀ v n, digs ys v = some n → n + 1 ≤ (v + 1) * 10 ^ ys.length := by
  induction ys with
  | nil => intro v n h; simp [digs] at h; simp [h]
  | cons c r ih =>
    intro v n h
    rw [digs] at h
    split at h
    · have := ih _ _ h
      refine Nat.le_trans this ?_
      rw [List.length_cons, Nat.pow_succ, Nat.mul_comm (10 ^ r.length) 10, ← Nat.mul_assoc]
      exact Nat.mul_le_mul_right _ (by omega)
    · cases h
theorem numV_lt (ys : List UInt8) : numV ys + 1 ≤ 10 ^ ys.length := by
  unfold numV
  cases h : digs ys 0 with
  | none => exact Nat.pow_pos (by omega)
  | some n => simpa using digs_lt ys 0 n h
set_option maxHeartbeats 4000000 in
theorem zone_calls (g : Nat) (a b c d f : UInt8) (bad : Bool) (w : World) (h : Rds w g [a, b, c, d, f] bad) :
    Calls Try.prog 19 #[.pointer (some ⟨g, 0, none⟩)] w fun e w' => e = .returned (.int .i64 (zonV a b c d f)) ∧ Rds w' g [] (bad || zonB a b c d f) ∧ w.grownBy w' (some g) := by
  go_enter Try.func19, Try.ntmps19
  go_wp2_with fail
  refine (take_calls g [a, b, c, d, f] bad 1 w h (by simp)).mono ?_
  rintro e w1 ⟨rfl, rfl⟩
  have KH1 := K.mk (h.take [b, c, d, f])
  have KG1 := K.mk (gset w g 0 (str [b, c, d, f]))
  clear h
  simp only [List.drop_succ_cons, List.drop_zero, List.take_succ_cons, List.take_zero]
  generalize w.setCell ⟨g, 0, none⟩ (str [b, c, d, f]) = w1 at KH1 KG1
  go_wp2_with fail
  refine (number_calls g [b, c, d, f] bad 2 w1 KH1.out (by simp) (by omega)).mono ?_
  simp only [List.drop_succ_cons, List.drop_zero, List.take_succ_cons, List.take_zero]
  rintro e w2 ⟨rfl, hR, hG⟩
  have KH2 := K.mk hR
  have KG2 := K.mk (World.grownBy.trans KG1.out hG)
  clear hR hG
  go_wp2_with fail
  refine (number_calls g [d, f] _ 2 w2 KH2.out (by simp) (by omega)).mono ?_
  simp only [List.drop_succ_cons, List.drop_zero, List.take_succ_cons, List.take_zero]
  rintro e w3 ⟨rfl, hR, hG⟩
  have KV : K (zonV a b c d f = if a = 45 then -((60 * numV [b, c] + numV [d, f] : Nat) : Int) else ((60 * numV [b, c] + numV [d, f] : Nat) : Int)) := ⟨rfl⟩
  have KB : K ((bad || zonB a b c d f) = ((bad || (digs [b, c] 0).isNone || (digs [d, f] 0).isNone) || decide ((a ≠ 43 ∧ a ≠ 45) ∨ (a = 45 ∧ 60 * numV [b, c] + numV [d, f] = 0) ∨ 59 < numV [d, f]))) := ⟨by simp only [zonB, Bool.or_assoc]⟩
  have KH3 := K.mk hR
  have KG3 := K.mk (World.grownBy.trans KG2.out hG)
  clear hR hG KH2 KG2 KH1 KG1
  obtain ⟨c0, c1, c2, c3⟩ := KH3.out.c
  have hh : numV [b, c] + 1 ≤ 100 := numV_lt [b, c]
  have hm : numV [d, f] + 1 ≤ 100 := numV_lt [d, f]
  generalize (bad || (digs [b, c] 0).isNone || (digs [d, f] 0).isNone) = b3 at c1 KH3 KB
  revert KV KB hh hm
  generalize numV [b, c] = hv
  generalize numV [d, f] = mv
  intro KV hh hm KB
  unfold str
  cases b3 with
  | true =>
    by_cases ha : a = 45
    · have ha' : ([a] == [45]) = true := by simpa using ha
      replace KV := K.mk (KV.out.trans (if_pos ha))
      replace KB : K ((bad || zonB a b c d f) = true) := ⟨KB.out.trans (by simp)⟩
      clear ha
      go_wp2
      go_ret
      exact ⟨by rw [KV.out]; simp, by rw [KB.out]; exact KH3.out.bad true, World.grownBy.trans KG3.out (gset _ _ _ _)⟩
    · have ha' : ([a] == [45]) = false := by simpa using ha
      replace KV := K.mk (KV.out.trans (if_neg ha))
      replace KB : K ((bad || zonB a b c d f) = true) := ⟨KB.out.trans (by simp)⟩
      clear ha
      go_wp2
      go_ret
      exact ⟨by rw [KV.out]; simp, by rw [KB.out]; exact KH3.out.bad true, World.grownBy.trans KG3.out (gset _ _ _ _)⟩
  | false =>
    by_cases ha : a = 45
    · subst ha
      replace KV := K.mk (KV.out.trans (if_pos rfl))
      by_cases hN : 60 * hv + mv = 0
      · have hv0 : hv = 0 := by omega
        have mv0 : mv = 0 := by omega
        subst hv0; subst mv0
        replace KB : K ((bad || zonB 45 b c d f) = true) := ⟨KB.out.trans (by simp)⟩
        go_wp2
        go_ret
        exact ⟨by rw [KV.out]; simp, by rw [KB.out]; exact KH3.out.bad true, World.grownBy.trans KG3.out (gset _ _ _ _)⟩
      · have hN' : (60 * (hv : Int) + mv == 0) = false := by rw [beq_eq_false_iff_ne]; omega
        replace KB : K ((bad || zonB 45 b c d f) = decide (59 < (mv : Int))) := ⟨KB.out.trans (by rw [Bool.false_or, decide_eq_decide]; constructor <;> intro hx <;> first | omega | (simp at hx; omega) | (right; right; omega))⟩
        clear hN
        go_wp2
        all_goals
          go_ret
          exact ⟨by rw [KV.out]; simp, by rw [KB.out]; simpa [*] using KH3.out.bad (decide (59 < (mv : Int))), World.grownBy.trans KG3.out (gset _ _ _ _)⟩
    · have ha' : ([a] == [45]) = false := by simpa using ha
      replace KV := K.mk (KV.out.trans (if_neg ha))
      by_cases h3 : a = 43
      · subst h3
        clear ha ha'
        replace KB : K ((bad || zonB 43 b c d f) = decide (59 < (mv : Int))) := ⟨KB.out.trans (by simp; omega)⟩
        go_wp2
        all_goals
          go_ret
          exact ⟨by rw [KV.out]; simp, by rw [KB.out]; simpa [*] using KH3.out.bad (decide (59 < (mv : Int))), World.grownBy.trans KG3.out (gset _ _ _ _)⟩
      · have h3' : ([a] == [43]) = false := by simpa using h3
        replace KB : K ((bad || zonB a b c d f) = true) := ⟨KB.out.trans (by simp [h3, ha])⟩
        clear ha h3
        go_wp2
        all_goals
          go_ret
          exact ⟨by rw [KV.out]; simp, by rw [KB.out]; simpa using KH3.out.bad true, World.grownBy.trans KG3.out (gset _ _ _ _)⟩
end Go.Proofs.Ytdeegjhnomdepaa.st

