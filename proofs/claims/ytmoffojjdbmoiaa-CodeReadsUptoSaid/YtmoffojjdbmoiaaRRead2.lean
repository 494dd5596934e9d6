/- Walks over chapter 1: the reference's reader: Text and End. -/
import Derived.Test.YtmoffojjdbmoiaaRRead1
set_option linter.unusedVariables false
set_option linter.unusedSimpArgs false
namespace Go.Proofs.Ytmoffojjdbmoiaa.code
open Go.RowKit Go.Proofs.Ytmoffojjdbmoiaa.b
variable {S : Nat → Prop}

theorem seg_cons (bs : List UInt8) (k e : Nat) (h : k < e) (h2 : e ≤ bs.length) : (bs.take e).drop k = bs[k]'(by omega) :: (bs.take e).drop (k + 1) := by
  rw [List.drop_eq_getElem_cons (by simp; omega)]
  simp
/-- What is read of a text from a place on, to where it ends. -/
def unE (bs : List UInt8) (k : Nat) : List UInt8 := un ((bs.take (txtE bs k).1).drop k)
theorem txtE_step (bs : List UInt8) (k : Nat) (h1 : k < bs.length) : txtE bs k = if bs[k] ≠ 0 then txtE bs (k + 1) else if h1 : k + 1 < bs.length then (if bs[k + 1] = 1 then (k + 2, 0) else if bs[k + 1] = 255 then txtE bs (k + 2) else (0, 9)) else (0, 8) := by
  rw [txtE, dif_pos h1]
theorem unE_plain (bs : List UInt8) (k : Nat) (h1 : k < bs.length) (h : bs[k] ≠ 0) (he : (txtE bs k).2 = 0) : unE bs k = bs[k] :: unE bs (k + 1) := by
  have e : txtE bs k = txtE bs (k + 1) := by rw [txtE_step bs k h1, if_pos h]
  obtain ⟨a, b⟩ := txtE_le bs (k + 1) (by rw [← e]; exact he)
  unfold unE
  rw [e, seg_cons bs k _ (by omega) b, un, if_neg (by simp; omega), if_neg h]
theorem unE_zero (bs : List UInt8) (k : Nat) (h1 : k + 1 < bs.length) (h : bs[k] = 0) (h2 : bs[k + 1] = 255) (he : (txtE bs k).2 = 0) : unE bs k = 0 :: unE bs (k + 2) := by
  have e : txtE bs k = txtE bs (k + 2) := by rw [txtE_step bs k (by omega), if_neg (by simpa using h), dif_pos h1, if_neg (by rw [h2]; decide), if_pos h2]
  obtain ⟨a, b⟩ := txtE_le bs (k + 2) (by rw [← e]; exact he)
  unfold unE
  rw [e, seg_cons bs k _ (by omega) b, un, if_neg (by simp; omega), if_pos h, List.drop_drop]
theorem unE_end (bs : List UInt8) (k : Nat) (h1 : k + 1 < bs.length) (h : bs[k] = 0) (h2 : bs[k + 1] = 1) : unE bs k = [] := by
  have e : txtE bs k = (k + 2, 0) := by rw [txtE_step bs k (by omega), if_neg (by simpa using h), dif_pos h1, if_pos h2]
  unfold unE
  rw [e]
  simp only
  rw [seg_cons bs k _ (by omega) (by omega), un, if_pos (by simp; omega)]

theorem RrText_err (g : Nat) (bs : List UInt8) (i er : Nat) (w : World) (h : IsRr S w g bs i er) (he : er ≠ 0) :
    Calls Try.prog 19 #[.pointer (some ⟨g, 0, none⟩)] w fun e w' => e = .returned (.slice none 0 0) ∧ w' = w := by
  obtain ⟨A, c, c0, c1, c2, f1, f2, hc, hA⟩ := h.cells
  have b1 : ((er : Int) != 0) = true := by rw [bne_iff_ne]; omega
  clear h hA he
  go_enter Try.func19, Try.ntmps19
  go_wp2
  go_ret
  exact ⟨rfl, rfl⟩

set_option maxHeartbeats 4000000 in
set_option maxRecDepth 100000 in
theorem RrText_ok (g : Nat) (bs : List UInt8) (i : Nat) (w : World) (h : IsRr S w g bs i 0) (hi : i ≤ bs.length) (hb : bs.length ≤ 140737488351232) :
    Calls Try.prog 19 #[.pointer (some ⟨g, 0, none⟩)] w fun e w' =>
      ((txtE bs i).2 = 0 → ∃ v, e = .returned v ∧ w'.ownsRow w.heap.size 5 1 v (unE bs i).length (bvs (unE bs i)) ∧ IsRr S w' g bs (txtE bs i).1 0 ∧ w.grownBy w' (some g)) ∧
      ((txtE bs i).2 ≠ 0 → e = .returned (.slice none 0 0) ∧ IsRr S w' g bs i (txtE bs i).2 ∧ w.grownBy w' (some g)) := by
  have KH := K.mk h
  obtain ⟨A, c, c0, c1, c2, f1, f2, hc, hA⟩ := h.cells
  have KA := K.mk hA
  have hlt := h.lt
  clear h hA
  have KC0 := K.mk c0
  have KC1 := K.mk c1
  have KC2 := K.mk c2
  have KF1 := K.mk f1
  have KF2 := K.mk f2
  clear f1 f2
  go_enter Try.func19, Try.ntmps19
  go_wp2
  clear c0 c1 c2
  go_loopw [3, 4] (fun o v wr => ∃ (k : Nat) (out : List UInt8), i ≤ k ∧ k ≤ bs.length ∧ v = .int .i64 (k : Int) ∧ K (txtE bs i = txtE bs k ∧ ((txtE bs i).2 = 0 → unE bs i = out ++ unE bs k) ∧ out.length ≤ k) ∧ K (wr.ownsRow w.heap.size 5 1 o out.length (bvs out)) ∧ K (Below w.heap.size w wr)) (fun _ v _ => bs.length + 1 - (intOf v).toNat)
  case atStart => exact ⟨i, [], Nat.le_refl _, hi, rfl, ⟨by simp⟩, ⟨by simpa [bvs] using World.ownsRow_nil _ _ _ _⟩, ⟨Below.refl _ _⟩⟩
  case round =>
    obtain ⟨k, out, hik, hk, rfl, KE, KO, KB⟩ := hrel
    have hB := KB.out.size
    have hol := KE.out.2.2
    have c0 := (KB.out.cell (p := ⟨g, 0, none⟩) hlt).trans KC0.out
    have c1 := (KB.out.cell (p := ⟨g, 1, none⟩) hlt).trans KC1.out
    have c2 := (KB.out.cell (p := ⟨g, 2, none⟩) hlt).trans KC2.out
    have f1 := (KB.out.frozen (p := ⟨g, 1, none⟩) hlt).trans KF1.out
    have f2 := (KB.out.frozen (p := ⟨g, 2, none⟩) hlt).trans KF2.out
    have KH' := K.mk (KH.out.keep KB.out)
    by_cases h1 : k < bs.length
    · obtain ⟨ad, rfl, hn0⟩ := KA.out.byte k h1
      have hn := (KB.out.cell (World.block_lt_of_cell? w _ hn0)).trans hn0
      clear hn0
      have KK := K.mk (txtE_step bs k h1)
      by_cases h2 : bs[k] = 0
      · have b2 : ((bs[k].toNat : Int) != 0) = false := by rw [h2]; rfl
        replace KK := K.mk (KK.out.trans (if_neg (by simpa using h2)))
        have K2 := K.mk h2
        clear h2
        by_cases h3 : k + 1 < bs.length
        · obtain ⟨_, e1, hm0⟩ := KA.out.byte (k + 1) h3
          cases e1
          rw [add_succ] at hm0
          have hm := (KB.out.cell (World.block_lt_of_cell? w _ hm0)).trans hm0
          clear hm0
          replace KK := K.mk (KK.out.trans (dif_pos h3))
          by_cases h4 : bs[k + 1] = 1
          · have b4 : ((bs[k + 1].toNat : Int) == 1) = true := by rw [h4]; rfl
            have K4 := K.mk (unE_end bs k h3 K2.out h4)
            replace KK := K.mk (KK.out.trans (if_pos h4))
            clear h4
            go_wp2
            go_ret
            have et : txtE bs i = (k + 2, 0) := KE.out.1.trans KK.out
            refine ⟨fun _ => ⟨_, rfl, ?_, ?_, World.grownBy.trans (gbel KB.out _) (gset _ _ _ _)⟩, fun hx => absurd (by rw [et]) hx⟩
            · rw [KE.out.2.1 (by rw [et]), K4.out, List.append_nil]
              exact (KO.out.kept (gset _ g 1 _) (by
                rcases hv : Value.ownBlock _ with _ | q
                · exact .inl rfl
                · right
                  have := (KO.out.lt q hv).1
                  intro e; cases e; omega))
            · rw [et]
              have := KH'.out.set1 (k + 2)
              simpa [Int.natCast_add] using this
          · have b4 : ((bs[k + 1].toNat : Int) == 1) = false := by
              rw [beq_eq_false_iff_ne]; intro e; exact h4 (UInt8.toNat_inj.1 (by simpa using (by omega : bs[k + 1].toNat = 1)))
            replace KK := K.mk (KK.out.trans (if_neg h4))
            clear h4
            by_cases h5 : bs[k + 1] = 255
            · have b5 : ((bs[k + 1].toNat : Int) == 255) = true := by rw [h5]; rfl
              have K5 := K.mk (unE_zero bs k h3 K2.out h5)
              replace KK := K.mk (KK.out.trans (if_pos h5))
              clear h5
              go_wp2_with (at_builtin; refine app1 rfl _ _ 23 5 (.int .u8 0) 1 1 rfl rfl info5 rfl (by decide) _ _ _ 1 1 [_] rfl rfl rfl (by assumption) (by assumption) (by omega) (by simp [Value.oneCell']) (by omega) (by omega) ?_; intro v1 w1 KO1 KB1 _; have hB1 := KB1.out.size)
              go_roundw
              case rel => exact ⟨k + 2, out ++ [0], by omega, by omega, by go_num, ⟨by rw [KE.out.1, KK.out], fun hz => by rw [KE.out.2.1 hz, K5.out (by rw [← KE.out.1]; exact hz)]; simp, by simp; omega⟩, ⟨by simpa [bvs] using KO1.out⟩, KB1⟩
              case measure => simp [intOf]; omega
            · have b5 : ((bs[k + 1].toNat : Int) == 255) = false := by
                rw [beq_eq_false_iff_ne]; intro e; exact h5 (UInt8.toNat_inj.1 (by simpa using (by omega : bs[k + 1].toNat = 255)))
              replace KK := K.mk (KK.out.trans (if_neg h5))
              clear h5
              go_wp2
              go_ret
              have et : txtE bs i = (0, 9) := KE.out.1.trans KK.out
              exact ⟨fun hx => (by rw [et] at hx; cases hx), fun _ => ⟨rfl, by rw [et]; exact KH'.out.set2 9, World.grownBy.trans (gbel KB.out _) (gset _ _ _ _)⟩⟩
        · replace KK := K.mk (KK.out.trans (dif_neg h3))
          go_wp2
          go_ret
          have et : txtE bs i = (0, 8) := KE.out.1.trans KK.out
          exact ⟨fun hx => (by rw [et] at hx; cases hx), fun _ => ⟨rfl, by rw [et]; exact KH'.out.set2 8, World.grownBy.trans (gbel KB.out _) (gset _ _ _ _)⟩⟩
      · have b2 : ((bs[k].toNat : Int) != 0) = true := by
          rw [bne_iff_ne]; intro e; exact h2 (UInt8.toNat_inj.1 (by simpa using e))
        have K2 := K.mk (unE_plain bs k h1 h2)
        replace KK := K.mk (KK.out.trans (if_pos h2))
        clear h2
        go_wp2_with (at_builtin; refine app1 rfl _ _ 23 5 (.int .u8 0) 1 1 rfl rfl info5 rfl (by decide) _ _ _ 1 1 [_] rfl rfl rfl (by assumption) (by assumption) (by omega) (by simp [Value.oneCell']) (by omega) (by omega) ?_; intro v1 w1 KO1 KB1 _; have hB1 := KB1.out.size)
        go_roundw
        case rel => exact ⟨k + 1, out ++ [bs[k]], by omega, by omega, by go_num, ⟨by rw [KE.out.1, KK.out], fun hz => by rw [KE.out.2.1 hz, K2.out (by rw [← KE.out.1]; exact hz)]; simp, by simp; omega⟩, ⟨by simpa [bvs] using KO1.out⟩, KB1⟩
        case measure => simp [intOf]; omega
    · have KK : K (txtE bs k = (0, 8)) := ⟨by rw [txtE, dif_neg h1]⟩
      go_wp2
      go_ret
      have et : txtE bs i = (0, 8) := KE.out.1.trans KK.out
      exact ⟨fun hx => (by rw [et] at hx; cases hx), fun _ => ⟨rfl, by rw [et]; exact KH'.out.set2 8, World.grownBy.trans (gbel KB.out _) (gset _ _ _ _)⟩⟩

theorem RrText_calls (g : Nat) (bs : List UInt8) (i er : Nat) (w : World) (h : IsRr S w g bs i er) (hi : i ≤ bs.length) (hb : bs.length ≤ 140737488351232) :
    Calls Try.prog 19 #[.pointer (some ⟨g, 0, none⟩)] w fun e w' => ∃ v, e = .returned v ∧ w'.ownsRow w.heap.size 5 1 v (textP bs i er).1.length (bvs (textP bs i er).1) ∧ IsRr S w' g bs (textP bs i er).2.1 (textP bs i er).2.2 ∧ w.grownBy w' (some g) := by
  unfold textP takeP
  by_cases he : er = 0
  · subst he
    rw [if_neg (by simp)]
    refine (RrText_ok g bs i w h hi hb).mono fun e w' ⟨h1, h2⟩ => ?_
    by_cases hz : (txtE bs i).2 = 0
    · rw [if_neg (by simpa using hz)]
      exact h1 hz
    · rw [if_pos hz]
      obtain ⟨rfl, h3, h4⟩ := h2 hz
      exact ⟨_, rfl, by simpa [un, bvs] using World.ownsRow_nil w' w.heap.size 5 1, h3, h4⟩
  · rw [if_pos he]
    refine (RrText_err g bs i er w h he).mono ?_
    rintro e w1 ⟨rfl, rfl⟩
    exact ⟨_, rfl, by simpa [un, bvs] using World.ownsRow_nil w1 w1.heap.size 5 1, h, World.grownBy.refl _ _⟩

set_option maxHeartbeats 1000000 in
theorem RrEnd_calls (g : Nat) (bs : List UInt8) (i er : Nat) (w : World) (h : IsRr S w g bs i er) (hi : i ≤ bs.length) (hb : bs.length ≤ 140737488351232) :
    Calls Try.prog 25 #[.pointer (some ⟨g, 0, none⟩)] w fun e w' => e = .returned (.int .i64 (endP bs i er : Int)) ∧ Dr w w' := by
  obtain ⟨A, c, c0, c1, c2, f1, f2, hc, hA⟩ := h.cells
  clear h hA
  unfold endP
  by_cases h1 : er = 0
  · subst h1
    by_cases h2 : i < bs.length
    · go_enter Try.func25, Try.ntmps25
      go_wp2
      go_quiet (fail)
      go_wp2
      go_ret
      exact ⟨by simp [h2], ⟨_, rfl⟩⟩
    · have b2 : decide ((i : Int) < bs.length) = false := by rw [decide_eq_false_iff_not]; omega
      go_enter Try.func25, Try.ntmps25
      go_wp2
      go_quiet (fail)
      go_wp2
      go_ret
      exact ⟨by simp [h2], ⟨_, rfl⟩⟩
  · have b1 : ((er : Int) == 0) = false := by rw [beq_eq_false_iff_ne]; omega
    go_enter Try.func25, Try.ntmps25
    go_wp2
    go_quiet (fail)
    go_wp2
    go_ret
    exact ⟨by simp [h1], ⟨_, rfl⟩⟩
theorem IsRr.grown {w w' : World} {g q : Nat} {bs : List UInt8} {a e : Nat} (h : IsRr S w g bs a e) (hg : w.grownBy w' (some q)) (h1 : g ≠ q) (h2 : ∀ k, S k → k ≠ q) : IsRr S w' g bs a e := by
  obtain ⟨A, c, hh, hA, hc, hne⟩ := h
  refine ⟨A, c, (hg.block g (Array.getElem?_eq_some_iff.1 hh).1 (by simpa using h1)).trans hh, ?_, hc, hne⟩
  intro i v hv
  obtain ⟨ad, e, hcell⟩ := hA i v hv
  exact ⟨ad, e, hg.cell hcell (by rw [add_block]; simpa using h2 _ (hne ad e (by intro e0; rw [e0] at hv; simp at hv)).2)⟩
end Go.Proofs.Ytmoffojjdbmoiaa.code
