/- Plain law: what is written, one behind the other, is read; nothing shorter is. No program is named here. -/
import Derived.Test.YtmoffojjdbmoiaaRead4
set_option linter.unusedVariables false
set_option linter.unusedSimpArgs false
namespace Go.Proofs.Ytmoffojjdbmoiaa.code
open Go.RowKit Go.Proofs.Ytmoffojjdbmoiaa.b

theorem dec_be (n : Nat) : ∀ v, v ≤ n → dec (be v) = v := by
  induction n with
  | zero => intro v h; have : v = 0 := by omega
            subst this; rw [be_zero]; rfl
  | succ n ih =>
    intro v h
    by_cases h0 : 0 < v
    · rw [be_pos h0, dec_snoc, ih (v / 256) (by omega)]
      simp; omega
    · have : v = 0 := by omega
      subst this; rw [be_zero]; rfl
theorem be_head (n : Nat) : ∀ v, v ≤ n → ∀ c r, be v = c :: r → c ≠ 0 := by
  induction n with
  | zero => intro v h c r e; have : v = 0 := by omega
            subst this; rw [be_zero] at e; cases e
  | succ n ih =>
    intro v h c r e
    by_cases h0 : 0 < v
    · rw [be_pos h0] at e
      by_cases h1 : 0 < v / 256
      · cases hb : be (v / 256) with
        | nil => rw [be_pos h1] at hb; simp at hb
        | cons d s =>
          rw [hb] at e
          simp at e
          rw [← e.1]
          exact ih (v / 256) (by omega) d s hb
      · rw [show v / 256 = 0 by omega, be_zero] at e
        simp at e
        rw [← e.1]
        intro hz
        have := congrArg UInt8.toNat hz
        simp at this
        omega
    · have : v = 0 := by omega
      subst this; rw [be_zero] at e; cases e
theorem un_txt (b : List UInt8) : un (txt b) = b := by
  induction b with
  | nil => rw [txt, tx, List.nil_append, un]; simp
  | cons c b ih =>
    have hl : 2 ≤ (txt b).length := by simp [txt]
    by_cases h : c = 0
    · have e : txt (c :: b) = 0 :: 255 :: txt b := by simp [txt, tx, h]
      rw [e, un, if_neg (by simp; omega), if_pos rfl]
      simp [ih, h]
    · have e : txt (c :: b) = c :: txt b := by simp [txt, tx, h]
      rw [e, un, if_neg (by omega), if_neg h, ih]
/-- A number, or a beginning of it, at a place. -/
theorem numE_part (v : Nat) (hv : v < 256 ^ 8) (pre rest : List UInt8) (m : Nat) (hm : m ≤ (num v).length) (hr : m < (num v).length → rest = []) :
    numE (pre ++ (num v).take m ++ rest) pre.length = if m = (num v).length then (pre.length + (num v).length, 0) else (0, 8) := by
  have hl := be_length 8 v hv
  have hnl : (num v).length = (be v).length + 1 := rfl
  cases m with
  | zero =>
    rw [hr (by omega), if_neg (by omega)]
    simp [numE]
  | succ m =>
    have ht : (num v).take (m + 1) = UInt8.ofNat (be v).length :: (be v).take m := rfl
    have h0 : (pre ++ (num v).take (m + 1) ++ rest)[pre.length]? = some (UInt8.ofNat (be v).length) := by
      rw [ht, List.append_assoc, List.getElem?_append_right (Nat.le_refl _)]; simp
    have hn : (UInt8.ofNat (be v).length).toNat = (be v).length := by simp; omega
    have h1 : ¬ (0 < (be v).length ∧ (pre ++ (num v).take (m + 1) ++ rest)[pre.length + 1]? = some 0) := by
      rintro ⟨hp, he⟩
      rw [ht, List.append_assoc, List.getElem?_append_right (by omega), Nat.add_sub_cancel_left] at he
      simp only [List.cons_append, List.getElem?_cons_succ] at he
      cases hb : be v with
      | nil => rw [hb] at hp; simp at hp
      | cons c r =>
        have hc := be_head v v (Nat.le_refl _) c r hb
        rw [hb] at he
        cases m with
        | zero =>
          rw [hr (by rw [hnl, hb]; simp)] at he
          simp at he
        | succ m => simp at he; exact hc he
    have hlen : (pre ++ (num v).take (m + 1) ++ rest).length = pre.length + (m + 1) + rest.length := by
      rw [List.length_append, List.length_append, List.length_take]; omega
    rw [numE, h0]
    simp only [hn]
    rw [if_neg (by omega), if_neg h1, hlen]
    by_cases he : m + 1 = (num v).length
    · rw [if_pos he, if_neg (by omega)]
      congr 1
      omega
    · rw [if_neg he, hr (by omega), if_pos (by simp; omega)]
theorem txtE_cons (pre : List UInt8) (c : UInt8) (r : List UInt8) (h : c ≠ 0) : txtE (pre ++ c :: r) pre.length = txtE (pre ++ c :: r) (pre.length + 1) := by
  rw [txtE, dif_pos (by simp), if_pos (by simpa using h)]
/-- A text, or a beginning of it, at a place. -/
theorem txtE_part (b : List UInt8) : ∀ (pre rest : List UInt8) (m : Nat), m ≤ (txt b).length → (m < (txt b).length → rest = []) →
    txtE (pre ++ (txt b).take m ++ rest) pre.length = if m = (txt b).length then (pre.length + (txt b).length, 0) else (0, 8) := by
  induction b with
  | nil =>
    intro pre rest m hm hr
    have e : txt [] = [0, 1] := rfl
    rw [e] at hm hr ⊢
    simp only [List.length_cons, List.length_nil] at hm hr ⊢
    match m, hm with
    | 0, _ => rw [hr (by omega)]; rw [txtE, dif_neg (by simp)]; simp
    | 1, _ => rw [hr (by omega)]; rw [txtE, dif_pos (by simp), if_neg (by simp), dif_neg (by simp)]; simp
    | 2, _ => rw [txtE, dif_pos (by simp), if_neg (by simp), dif_pos (by simp)]; simp
  | cons c b ih =>
    intro pre rest m hm hr
    by_cases h : c = 0
    · have e : txt (c :: b) = 0 :: 255 :: txt b := by simp [txt, tx, h]
      rw [e] at hm hr ⊢
      simp only [List.length_cons] at hm hr ⊢
      match m, hm, hr with
      | 0, _, hr => rw [hr (by omega)]; rw [txtE, dif_neg (by simp)]; simp
      | 1, _, hr => rw [hr (by omega)]; rw [txtE, dif_pos (by simp), if_neg (by simp), dif_neg (by simp)]; simp
      | m + 2, hm, hr =>
        have h2 := ih (pre ++ [0, 255]) rest m (by omega) (fun h => hr (by omega))
        have e2 : pre ++ [0, 255] ++ (txt b).take m ++ rest = pre ++ (0 :: 255 :: txt b).take (m + 2) ++ rest := by simp
        rw [e2] at h2
        rw [txtE, dif_pos (by simp), if_neg (by simp), dif_pos (by simp), if_neg (by simp), if_pos (by simp)]
        simp only [List.length_append, List.length_cons, List.length_nil] at h2
        rw [h2]
        by_cases hq : m = (txt b).length
        · rw [if_pos hq, if_pos (by omega)]; congr 1; omega
        · rw [if_neg hq, if_neg (by omega)]
    · have e : txt (c :: b) = c :: txt b := by simp [txt, tx, h]
      rw [e] at hm hr ⊢
      simp only [List.length_cons] at hm hr ⊢
      match m, hm, hr with
      | 0, _, hr => rw [hr (by omega)]; rw [txtE, dif_neg (by simp)]; simp
      | m + 1, hm, hr =>
        have h2 := ih (pre ++ [c]) rest m (by omega) (fun h => hr (by omega))
        have e2 : pre ++ [c] ++ (txt b).take m ++ rest = pre ++ (c :: txt b).take (m + 1) ++ rest := by simp
        rw [e2] at h2
        rw [txtE, dif_pos (by simp), if_pos (by simpa using h)]
        simp only [List.length_append, List.length_cons, List.length_nil] at h2
        rw [h2]
        by_cases hq : m = (txt b).length
        · rw [if_pos hq, if_pos (by omega)]; congr 1; omega
        · rw [if_neg hq, if_neg (by omega)]

def back (v : Nat) (b : List UInt8) (u : Nat) : List UInt8 := num v ++ txt b ++ num u
theorem num_pos (v : Nat) : 0 < (num v).length := by simp [num]
theorem numP_err (bs : List UInt8) (i er : Nat) (h : er ≠ 0) : numP bs i er = (0, i, er) := by
  unfold numP takeP
  rw [if_pos h]
  rfl
theorem textP_err (bs : List UInt8) (i er : Nat) (h : er ≠ 0) : textP bs i er = ([], i, er) := by
  unfold textP takeP
  rw [if_pos h]
  simp [un]
theorem numP_bad (bs : List UInt8) (i er : Nat) (h : numE bs i = (0, er)) (he : er ≠ 0) : numP bs i 0 = (0, i, er) := by
  unfold numP takeP
  rw [if_neg (by simp), h, if_pos he]
  rfl
theorem textP_bad (bs : List UInt8) (i er : Nat) (h : txtE bs i = (0, er)) (he : er ≠ 0) : textP bs i 0 = ([], i, er) := by
  unfold textP takeP
  rw [if_neg (by simp), h, if_pos he]
  simp [un]
theorem numP_at (v : Nat) (hv : v < 256 ^ 8) (pre rest : List UInt8) : numP (pre ++ num v ++ rest) pre.length 0 = (v, pre.length + (num v).length, 0) := by
  have h := numE_part v hv pre rest (num v).length (Nat.le_refl _) (fun h => by omega)
  rw [List.take_length, if_pos rfl] at h
  unfold numP takeP
  rw [if_neg (by simp), h, if_neg (by simp)]
  have e : ((pre ++ num v ++ rest).take (pre.length + (num v).length)).drop pre.length = num v := by
    rw [← List.length_append, List.take_left, List.drop_left]
  simp only [e]
  rw [show (num v).tail = be v from rfl, dec_be v v (Nat.le_refl _)]
theorem textP_at (b : List UInt8) (pre rest : List UInt8) : textP (pre ++ txt b ++ rest) pre.length 0 = (b, pre.length + (txt b).length, 0) := by
  have h := txtE_part b pre rest (txt b).length (Nat.le_refl _) (fun h => by omega)
  rw [List.take_length, if_pos rfl] at h
  unfold textP takeP
  rw [if_neg (by simp), h, if_neg (by simp)]
  have e : ((pre ++ txt b ++ rest).take (pre.length + (txt b).length)).drop pre.length = txt b := by
    rw [← List.length_append, List.take_left, List.drop_left]
  simp only [e, un_txt]
theorem back1 (v : Nat) (b : List UInt8) (u : Nat) (hv : v < 256 ^ 8) : numP (back v b u) 0 0 = (v, (num v).length, 0) := by
  have := numP_at v hv [] (txt b ++ num u)
  simpa [back] using this
theorem back2 (v : Nat) (b : List UInt8) (u : Nat) : textP (back v b u) (num v).length 0 = (b, (num v).length + (txt b).length, 0) := textP_at b (num v) (num u)
theorem back3 (v : Nat) (b : List UInt8) (u : Nat) (hu : u < 256 ^ 8) : numP (back v b u) ((num v).length + (txt b).length) 0 = (u, (back v b u).length, 0) := by
  have := numP_at u hu (num v ++ txt b) []
  simpa [back, Nat.add_assoc] using this
/-- The fault behind a number, a text and a number. -/
def fault3 (p : List UInt8) : Nat := (numP p (textP p (numP p 0 0).2.1 (numP p 0 0).2.2).2.1 (textP p (numP p 0 0).2.1 (numP p 0 0).2.2).2.2).2.2
theorem short3 (v : Nat) (b : List UInt8) (u : Nat) (hv : v < 256 ^ 8) (hu : u < 256 ^ 8) (m : Nat) (hm : m < (back v b u).length) : fault3 ((back v b u).take m) = 8 := by
  have hlen : (back v b u).length = (num v).length + (txt b).length + (num u).length := by simp [back, Nat.add_assoc]
  unfold fault3
  by_cases h1 : m < (num v).length
  · have e : (back v b u).take m = [] ++ (num v).take m ++ [] := by
      rw [back, List.append_assoc, List.take_append_of_le_length (by omega)]; simp
    have h := numE_part v hv [] [] m (by omega) (fun _ => rfl)
    rw [if_neg (by omega)] at h
    rw [e]
    rw [numP_bad _ 0 8 h (by omega), textP_err _ _ _ (by simp), numP_err _ _ _ (by simp)]
  · by_cases h2 : m < (num v).length + (txt b).length
    · have e : (back v b u).take m = [] ++ num v ++ (txt b).take (m - (num v).length) := by
        rw [back, List.append_assoc, List.take_append, List.take_of_length_le (by omega), List.take_append_of_le_length (by omega)]; simp
      have e2 : (back v b u).take m = num v ++ (txt b).take (m - (num v).length) ++ [] := by rw [e]; simp
      have k1 := numP_at v hv [] ((txt b).take (m - (num v).length))
      rw [← e] at k1
      have k2 := txtE_part b (num v) [] (m - (num v).length) (by omega) (fun _ => rfl)
      rw [if_neg (by omega), ← e2] at k2
      simp only [List.length_nil, Nat.zero_add] at k1
      rw [k1, textP_bad _ _ 8 k2 (by omega), numP_err _ _ _ (by simp)]
    · have e : (back v b u).take m = num v ++ txt b ++ (num u).take (m - ((num v).length + (txt b).length)) := by
        rw [back, List.take_append, List.take_of_length_le (by simp; omega)]; simp
      have k1 := numP_at v hv [] (txt b ++ (num u).take (m - ((num v).length + (txt b).length)))
      rw [List.nil_append, ← List.append_assoc, ← e] at k1
      have k2 := textP_at b (num v) ((num u).take (m - ((num v).length + (txt b).length)))
      rw [← e] at k2
      have k3 := numE_part u hu (num v ++ txt b) [] (m - ((num v).length + (txt b).length)) (by omega) (fun _ => rfl)
      rw [if_neg (by omega), List.append_nil, ← e, List.length_append] at k3
      simp only [List.length_nil, Nat.zero_add] at k1
      rw [k1, k2, numP_bad _ _ 8 k3 (by omega)]
end Go.Proofs.Ytmoffojjdbmoiaa.code
