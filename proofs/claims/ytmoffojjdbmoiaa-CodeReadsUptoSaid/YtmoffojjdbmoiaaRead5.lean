/- Walks over chapter 1: a reader's Text, what is left, the fault, a new reader. -/
import Derived.Test.YtmoffojjdbmoiaaRead4
set_option linter.unusedVariables false
set_option linter.unusedSimpArgs false
namespace Go.Proofs.Ytmoffojjdbmoiaa.code
open Go.RowKit Go.Proofs.Ytmoffojjdbmoiaa.b
variable {S : Nat → Prop}

theorem un_step (ys : List UInt8) (m : Nat) (h : m + 2 < ys.length) : un (ys.drop m) = if ys[m] = 0 then 0 :: un (ys.drop (m + 2)) else ys[m] :: un (ys.drop (m + 1)) := by
  rw [List.drop_eq_getElem_cons (by omega), un, if_neg (by simp; omega), List.drop_drop]
theorem un_end (ys : List UInt8) (m : Nat) (h : ys.length ≤ m + 2) : un (ys.drop m) = [] := by
  by_cases h0 : m < ys.length
  · rw [List.drop_eq_getElem_cons h0, un, if_pos (by simp; omega)]
  · rw [List.drop_eq_nil_of_le (by omega), un]
theorem un_len (n : Nat) : ∀ l : List UInt8, l.length ≤ n → (un l).length ≤ l.length := by
  induction n with
  | zero => intro l h; have : l = [] := List.eq_nil_of_length_eq_zero (by omega)
            subst this; simp [un]
  | succ n ih =>
    intro l h
    match l with
    | [] => simp [un]
    | c :: r =>
      rw [un]
      simp at h
      split
      · simp
      · split
        · have := ih (r.drop 1) (by simp; omega); simp at this ⊢; omega
        · have := ih r (by omega); simp; omega

set_option maxHeartbeats 2000000 in
theorem RdText_calls (g : Nat) (bs : List UInt8) (i er : Nat) (w : World) (h : IsRd S w g bs i er) (hi : i ≤ bs.length) (hb : bs.length ≤ 140737488351232) :
    Calls Try.prog 18 #[.pointer (some ⟨g, 0, none⟩)] w fun e w' => ∃ v, e = .returned v ∧ w'.ownsRow w.heap.size 5 1 v (textP bs i er).1.length (bvs (textP bs i er).1) ∧ IsRd S w' g bs (textP bs i er).2.1 (textP bs i er).2.2 ∧ w.grownBy w' (some g) := by
  have KT := K.mk (take_text_any g bs i er w h hi hb)
  have hl : (takeP txtE bs i er).1.length ≤ bs.length := by
    unfold takeP
    split
    · simp
    · split
      · simp
      · simp; omega
  clear h
  unfold textP
  generalize takeP txtE bs i er = T at KT hl
  obtain ⟨ys, T2⟩ := T
  go_enter Try.func18, Try.ntmps18
  go_wp2_with fail
  refine KT.out.mono ?_
  rintro e w1 ⟨A, n, c, rfl, rfl, hA, hI, hG⟩
  have KA := K.mk hA
  have KI := K.mk hI
  have KG := K.mk hG
  clear hA hI hG
  simp only at hl KA KI ⊢
  go_wp2_with fail
  go_loopw [3, 5] (fun o k wr => ∃ (m : Nat) (out : List UInt8), m ≤ ys.length ∧ k = .int .i64 (m : Int) ∧ K (un ys = out ++ un (ys.drop m) ∧ out.length ≤ m) ∧ K (wr.ownsRow w1.heap.size 5 1 o out.length (bvs out)) ∧ K (Below w1.heap.size w1 wr)) (fun _ k _ => ys.length - (intOf k).toNat)
  case atStart => exact ⟨0, [], by omega, rfl, ⟨by simp⟩, ⟨by simpa [bvs] using World.ownsRow_nil _ _ _ _⟩, ⟨Below.refl _ _⟩⟩
  case round =>
    obtain ⟨m, out, hm, rfl, KU, KO, KB⟩ := hrel
    have hB := KB.out.size
    have hol := KU.out.2
    by_cases hlt : m + 2 < ys.length
    · obtain ⟨ad, rfl, hc0⟩ := KA.out.byte m (by omega)
      have KC := K.mk hc0
      have hc := (KB.out.cell (World.block_lt_of_cell? w1 _ hc0)).trans hc0
      clear hc0
      have KS := K.mk (un_step ys m hlt)
      by_cases h0 : ys[m] = 0
      · have b0 : ((ys[m].toNat : Int) == 0) = true := by rw [h0]; rfl
        have K0 := K.mk h0
        replace KS := K.mk (KS.out.trans (if_pos h0))
        clear h0
        go_wp2_with (at_builtin; refine app1 rfl _ _ 23 5 (.int .u8 0) 1 1 rfl rfl info5 rfl (by decide) _ _ _ 1 1 [_] rfl rfl rfl (by assumption) (by assumption) (by omega) (by simp [Value.oneCell']) (by omega) (by omega) ?_; intro v1 w2 KO1 KB1 _; have hB1 := KB1.out.size; have hc1 := (KB1.out.cell (World.block_lt_of_cell? w1 _ KC.out)).trans KC.out)
        go_roundw
        case rel => exact ⟨m + 2, out ++ [0], by omega, by go_num, ⟨by rw [KU.out.1, KS.out]; simp, by simp; omega⟩, ⟨by simpa [bvs, K0.out] using KO1.out⟩, KB1⟩
        case measure => simp [intOf]; omega
      · have b0 : ((ys[m].toNat : Int) == 0) = false := by
          rw [beq_eq_false_iff_ne]; intro e; exact h0 (UInt8.toNat_inj.1 (by simpa using e))
        replace KS := K.mk (KS.out.trans (if_neg h0))
        clear h0
        go_wp2_with (at_builtin; refine app1 rfl _ _ 23 5 (.int .u8 0) 1 1 rfl rfl info5 rfl (by decide) _ _ _ 1 1 [_] rfl rfl rfl (by assumption) (by assumption) (by omega) (by simp [Value.oneCell']) (by omega) (by omega) ?_; intro v1 w2 KO1 KB1 _; have hB1 := KB1.out.size; have hc1 := (KB1.out.cell (World.block_lt_of_cell? w1 _ KC.out)).trans KC.out)
        go_roundw
        case rel => exact ⟨m + 1, out ++ [ys[m]], by omega, by go_num, ⟨by rw [KU.out.1, KS.out]; simp, by simp; omega⟩, ⟨by simpa [bvs] using KO1.out⟩, KB1⟩
        case measure => simp [intOf]; omega
    · have KS := K.mk (un_end ys m (by omega))
      go_wp2
      go_ret
      exact ⟨_, rfl, by rw [KU.out.1, KS.out, List.append_nil]; exact own_lower KO.out KG.out.size, KI.out.keep KB.out, World.grownBy.trans KG.out (gbel KB.out _)⟩

theorem Left_calls (g : Nat) (bs : List UInt8) (i er : Nat) (w : World) (h : IsRd S w g bs i er) (hi : i ≤ bs.length) (hb : bs.length ≤ 140737488351232) :
    Calls Try.prog 22 #[.pointer (some ⟨g, 0, none⟩)] w fun e w' => e = .returned (.int .i64 ((bs.length - i : Nat) : Int)) ∧ Dr w w' := by
  obtain ⟨A, c, c0, c1, c2, f1, f2, hc, hA⟩ := h.cells
  have S1 := IntWalk.i64_in ((bs.length : Int) - i) (by omega)
  have KE : K ((bs.length : Int) - i = ((bs.length - i : Nat) : Int)) := ⟨by omega⟩
  clear h hA
  go_enter Try.func22, Try.ntmps22
  go_wp2
  go_quiet (fail)
  go_wp2
  go_ret
  exact ⟨by rw [← KE.out]; rfl, ⟨_, rfl⟩⟩
theorem Left_nil (w : World) :
    Calls Try.prog 22 #[.pointer none] w fun e w' => e = .returned (.int .i64 0) ∧ w' = w := by
  go_enter Try.func22, Try.ntmps22
  go_wp2
  go_ret
  exact ⟨rfl, rfl⟩
theorem Err_calls (g : Nat) (bs : List UInt8) (i er : Nat) (w : World) (h : IsRd S w g bs i er) :
    Calls Try.prog 23 #[.pointer (some ⟨g, 0, none⟩)] w fun e w' => e = .returned (.int .i64 (er : Int)) ∧ w' = w := by
  obtain ⟨A, c, c0, c1, c2, f1, f2, hc, hA⟩ := h.cells
  clear h hA
  go_enter Try.func23, Try.ntmps23
  go_wp2
  go_ret
  exact ⟨rfl, rfl⟩
theorem Err_nil (w : World) :
    Calls Try.prog 23 #[.pointer none] w fun e w' => e = .returned (.int .i64 2) ∧ w' = w := by
  go_enter Try.func23, Try.ntmps23
  go_wp2
  go_ret
  exact ⟨rfl, rfl⟩
def endP (bs : List UInt8) (i er : Nat) : Nat := if er = 0 then (if i < bs.length then 9 else 0) else er
theorem End_calls (g : Nat) (bs : List UInt8) (i er : Nat) (w : World) (h : IsRd S w g bs i er) (hi : i ≤ bs.length) (hb : bs.length ≤ 140737488351232) :
    Calls Try.prog 24 #[.pointer (some ⟨g, 0, none⟩)] w fun e w' => e = .returned (.int .i64 (endP bs i er : Int)) ∧ Dr w w' := by
  have K1 := K.mk (Err_calls g bs i er w h)
  have K2 := K.mk (Left_calls g bs i er w h hi hb)
  clear h
  unfold endP
  by_cases h1 : er = 0
  · subst h1
    by_cases h2 : i < bs.length
    · have b2 : decide (0 < ((bs.length - i : Nat) : Int)) = true := by rw [decide_eq_true_eq]; omega
      go_enter Try.func24, Try.ntmps24
      go_wp2_with (first | (go_at_call 23; refine K1.out.mono ?_; rintro e w1 ⟨rfl, rfl⟩) | (go_at_call 22; refine K2.out.mono ?_; rintro e w1 ⟨rfl, KD⟩))
      go_ret
      exact ⟨by simp [h2], KD⟩
    · have b2 : decide (0 < ((bs.length - i : Nat) : Int)) = false := by rw [decide_eq_false_iff_not]; omega
      go_enter Try.func24, Try.ntmps24
      go_wp2_with (first | (go_at_call 23; refine K1.out.mono ?_; rintro e w1 ⟨rfl, rfl⟩) | (go_at_call 22; refine K2.out.mono ?_; rintro e w1 ⟨rfl, KD⟩))
      go_ret
      exact ⟨by simp [h2], KD⟩
  · have b1 : ((er : Int) != 0) = true := by rw [bne_iff_ne]; omega
    have KE := K.mk h1
    go_enter Try.func24, Try.ntmps24
    go_wp2_with (first | (go_at_call 23; refine K1.out.mono ?_; rintro e w1 ⟨rfl, rfl⟩) | (go_at_call 22; refine K2.out.mono ?_; rintro e w1 ⟨rfl, KD⟩))
    go_ret
    exact ⟨rfl, Dr.refl _⟩
theorem End_nil (w : World) :
    Calls Try.prog 24 #[.pointer none] w fun e w' => e = .returned (.int .i64 2) ∧ w' = w := by
  go_enter Try.func24, Try.ntmps24
  go_wp2_with (go_at_call 23; refine (Err_nil _).mono ?_; rintro e w1 ⟨rfl, rfl⟩)
  go_ret
  exact ⟨rfl, rfl⟩

theorem New_calls (A : Option Addr) (n c : Nat) (xs : List UInt8) (w : World) (hA : Rv w A (bvs xs)) (hn : xs.length = n) (hb : n ≤ 140737488351232) :
    Calls Try.prog 16 #[.slice A n c] w fun e w' => ∃ g, e = .returned (.pointer (some ⟨g, 0, none⟩)) ∧ w.heap.size ≤ g ∧ IsRd (fun k => w.heap.size ≤ k ∧ k < g) w' g xs 0 0 ∧ Below w.heap.size w w' := by
  have KA := K.mk hA
  have KB := K.mk (Below.refl w.heap.size w)
  clear hA
  subst hn
  go_enter Try.func16, Try.ntmps16
  go_wp2_with (at_builtin; refine app rfl _ _ 23 5 (.int .u8 0) 1 1 rfl rfl info5 rfl (by decide) (.slice none 0 0) 0 [] _ _ _ (bvs xs) rfl rfl (by simp [bvs]) (K.mk (World.ownsRow_nil _ _ _ _)) (by assumption) (Nat.le_refl _) KA.out (bvs_one _) (by omega) (by omega) ?_; intro v1 w1 KO1 KB1 _; have hB1 := KB1.out.size; obtain ⟨A1, c1, rfl, hc1, hr1⟩ := own_rv KO1.out; have KR1 := K.mk hr1; clear hr1)
  go_ret
  refine ⟨w1.heap.size, rfl, hB1, ?_, KB1.out.alloc hB1 _⟩
  refine ⟨A1, c1, ?_, ?_, by simpa using hc1, ?_⟩
  · rw [heap_alloc_new]
    simp
  · have := KR1.out.below ((Below.refl _ w1).alloc (Nat.le_refl _) (.cells #[.slice A1 (0 + xs.length) c1, .int .i64 0, .int .i64 0] 49))
    simpa using this
  · intro ad had
    subst had
    have h1 := (KO1.out.lt ad.block rfl).2
    have h2 := (KO1.out.lt ad.block rfl).1
    exact ⟨by omega, h2, h1⟩
theorem IsRd.grown {w w' : World} {g q : Nat} {bs : List UInt8} {a e : Nat} (h : IsRd S w g bs a e) (hg : w.grownBy w' (some q)) (h1 : g ≠ q) (h2 : ∀ k, S k → k ≠ q) : IsRd S w' g bs a e := by
  obtain ⟨A, c, hh, hA, hc, hne⟩ := h
  refine ⟨A, c, (hg.block g (Array.getElem?_eq_some_iff.1 hh).1 (by simpa using h1)).trans hh, ?_, hc, hne⟩
  intro i v hv
  obtain ⟨ad, e, hcell⟩ := hA i v hv
  exact ⟨ad, e, hg.cell hcell (by rw [add_block]; simpa using h2 _ (hne ad e).2)⟩
end Go.Proofs.Ytmoffojjdbmoiaa.code
