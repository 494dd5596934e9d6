/- Plain law: of two numbers, and of two texts, the lesser one has the lesser bytes, whatever stands behind. No program is named here. -/
import Derived.Test.YtmoffojjdbmoiaaCode2
set_option linter.unusedVariables false
set_option linter.unusedSimpArgs false
namespace Go.Proofs.Ytmoffojjdbmoiaa.code
open Go.RowKit Go.Proofs.Ytmoffojjdbmoiaa.b

theorem less_same (c : UInt8) (x y : List UInt8) : Op.bytesLess (c :: x) (c :: y) = Op.bytesLess x y := by
  simp [Op.bytesLess]
theorem less_ne (c d : UInt8) (x y : List UInt8) (h : c ≠ d) : Op.bytesLess (c :: x) (d :: y) = decide (c < d) := by
  simp [Op.bytesLess, h]
theorem less_pre (p x y : List UInt8) : Op.bytesLess (p ++ x) (p ++ y) = Op.bytesLess x y := by
  induction p with
  | nil => rfl
  | cons c p ih => rw [List.cons_append, List.cons_append, less_same, ih]
theorem be_lt (k : Nat) : ∀ a, (be a).length ≤ k → a < 256 ^ k := by
  induction k with
  | zero =>
    intro a h
    by_cases h0 : 0 < a
    · rw [be_pos h0] at h; simp at h
    · simp; omega
  | succ k ih =>
    intro a h
    by_cases h0 : 0 < a
    · rw [be_pos h0] at h
      simp at h
      have := ih (a / 256) h
      rw [Nat.pow_succ]
      omega
    · have : 0 < 256 ^ (k + 1) := Nat.pow_pos (by omega)
      omega
theorem u8_lt (a b : Nat) (h : a / 256 = b / 256) (hne : a ≠ b) : UInt8.ofNat a ≠ UInt8.ofNat b ∧ (decide (UInt8.ofNat a < UInt8.ofNat b) = decide (a < b)) := by
  constructor
  · intro e
    have := congrArg UInt8.toNat e
    simp at this
    omega
  · rw [decide_eq_decide, UInt8.lt_iff_toNat_lt]
    simp
    omega
theorem be_less (n : Nat) : ∀ a b, a ≤ n → (be a).length = (be b).length → a ≠ b → ∀ m o, Op.bytesLess (be a ++ m) (be b ++ o) = decide (a < b) := by
  induction n with
  | zero =>
    intro a b ha hl hne
    have : a = 0 := by omega
    subst this
    have : 0 < b := by omega
    rw [be_pos this, be_zero] at hl
    simp at hl
  | succ n ih =>
    intro a b ha hl hne m o
    by_cases h0 : 0 < a
    · have hb : 0 < b := by
        rcases Nat.eq_zero_or_pos b with h | h
        · subst h; rw [be_pos h0, be_zero] at hl; simp at hl
        · exact h
      rw [be_pos h0, be_pos hb] at hl ⊢
      simp only [List.append_assoc]
      by_cases hq : a / 256 = b / 256
      · rw [hq, less_pre]
        obtain ⟨h1, h2⟩ := u8_lt a b hq hne
        rw [List.singleton_append, List.singleton_append, less_ne _ _ _ _ h1, h2]
      · have hl' : (be (a / 256)).length = (be (b / 256)).length := by simpa using hl
        rw [ih (a / 256) (b / 256) (by omega) hl' hq, decide_eq_decide]
        omega
    · have : a = 0 := by omega
      subst this
      have : 0 < b := by omega
      rw [be_pos this, be_zero] at hl
      simp at hl
theorem num_less (a b : Nat) (ha : a < 256 ^ 8) (hb : b < 256 ^ 8) (hne : a ≠ b) (m o : List UInt8) : Op.bytesLess (num a ++ m) (num b ++ o) = decide (a < b) := by
  have la := be_length 8 a ha
  have lb := be_length 8 b hb
  unfold num
  rw [List.cons_append, List.cons_append]
  by_cases hl : (be a).length = (be b).length
  · rw [hl, less_same, be_less a a b (Nat.le_refl _) hl hne]
  · have hn : UInt8.ofNat (be a).length ≠ UInt8.ofNat (be b).length := by
      intro e
      have := congrArg UInt8.toNat e
      simp at this
      omega
    rw [less_ne _ _ _ _ hn, decide_eq_decide, UInt8.lt_iff_toNat_lt]
    simp
    rw [Nat.mod_eq_of_lt (by omega), Nat.mod_eq_of_lt (by omega)]
    constructor
    · intro h
      have h1 := be_lt _ a (Nat.le_refl _)
      rcases Nat.lt_or_ge a b with h2 | h2
      · exact h2
      · have := be_length (be a).length b (by omega)
        omega
    · intro h
      have h1 := be_lt _ b (Nat.le_refl _)
      have := be_length (be b).length a (by omega)
      omega
theorem txt_less (x : List UInt8) : ∀ y, x ≠ y → ∀ m o, Op.bytesLess (txt x ++ m) (txt y ++ o) = Op.bytesLess x y := by
  induction x with
  | nil =>
    intro y hne m o
    cases y with
    | nil => exact absurd rfl hne
    | cons c y =>
      by_cases h : c = 0
      · subst h; simp [txt, tx, Op.bytesLess]
      · simp only [txt, tx, if_neg h, List.nil_append, List.cons_append]
        rw [less_ne _ _ _ _ (Ne.symm h)]
        have : (0 : UInt8) < c := by
          rw [UInt8.lt_iff_toNat_lt]
          have : c.toNat ≠ 0 := fun e => h (UInt8.toNat_inj.1 e)
          simp; omega
        simp [Op.bytesLess, this]
  | cons c x ih =>
    intro y hne m o
    cases y with
    | nil =>
      by_cases h : c = 0
      · subst h; simp [txt, tx, Op.bytesLess]
      · simp only [txt, tx, if_neg h, List.nil_append, List.cons_append]
        rw [less_ne _ _ _ _ h]
        simp [Op.bytesLess]
    | cons d y =>
      by_cases hcd : c = d
      · subst hcd
        have hxy : x ≠ y := fun e => hne (by rw [e])
        have := ih y hxy m o
        rw [less_same, ← this]
        by_cases h : c = 0
        · simp [txt, tx, if_pos h, less_same]
        · simp [txt, tx, if_neg h, less_same]
      · rw [less_ne _ _ _ _ hcd]
        by_cases h : c = 0
        · have hd : d ≠ 0 := fun e => hcd (by rw [h, e])
          simp only [txt, tx, if_pos h, if_neg hd, List.cons_append]
          rw [less_ne _ _ _ _ (Ne.symm hd), h]
        · by_cases hd : d = 0
          · simp only [txt, tx, if_neg h, if_pos hd, List.cons_append]
            rw [less_ne _ _ _ _ h, hd]
          · simp only [txt, tx, if_neg h, if_neg hd, List.cons_append]
            rw [less_ne _ _ _ _ hcd]
end Go.Proofs.Ytmoffojjdbmoiaa.code
