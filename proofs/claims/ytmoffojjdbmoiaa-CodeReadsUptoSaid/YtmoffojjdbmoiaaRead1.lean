/- Walks over chapter 1: where the number, and the text, at a reader's place end. -/
import Derived.Test.YtmoffojjdbmoiaaCode2
import Derived.Laws.EntriesVeiled
set_option linter.unusedVariables false
set_option linter.unusedSimpArgs false
namespace Go.Proofs.Ytmoffojjdbmoiaa.code
open Go.RowKit Go.Proofs.Ytmoffojjdbmoiaa.b
variable {S : Nat → Prop}

/-- A reader of bytes, at a place, with a fault (0: none). -/
def IsRd (S : Nat → Prop) (w : World) (g : Nat) (bs : List UInt8) (at_ err : Nat) : Prop :=
  ∃ A c, w.heap[g]? = some (.cells #[.slice A bs.length c, .int .i64 (at_ : Int), .int .i64 (err : Int)] 49 (0, 0)) ∧ Rv w A (bvs bs) ∧ bs.length ≤ c ∧ (∀ ad, A = some ad → ad.block ≠ g ∧ S ad.block)
theorem blk3 {w : World} {g t : Nat} {x y z : Value} (h : w.heap[g]? = some (.cells #[x, y, z] t (0, 0))) : w.cell? ⟨g, 0, none⟩ = some x ∧ w.cell? ⟨g, 1, none⟩ = some y ∧ w.cell? ⟨g, 2, none⟩ = some z ∧ w.frozen? ⟨g, 1, none⟩ = false ∧ w.frozen? ⟨g, 2, none⟩ = false := by
  simp [World.cell?, World.frozen?, h]
/-- Where the number at a place ends, and the fault. -/
def numE (bs : List UInt8) (i : Nat) : Nat × Nat :=
  match bs[i]? with
  | none => (0, 8)
  | some n => if 8 < n.toNat then (0, 9) else if 0 < n.toNat ∧ bs[i + 1]? = some 0 then (0, 9) else if bs.length < i + 1 + n.toNat then (0, 8) else (i + 1 + n.toNat, 0)

set_option maxHeartbeats 2000000 in
theorem number_calls (g : Nat) (bs : List UInt8) (i : Nat) (w : World) (h : IsRd S w g bs i 0) (hi : i ≤ bs.length) (hb : bs.length ≤ 140737488351232) :
    Calls Try.prog 30 #[.pointer (some ⟨g, 0, none⟩)] w fun e w' => e = .returned (.tuple #[.int .i64 ((numE bs i).1 : Int), .int .i64 ((numE bs i).2 : Int)]) ∧ Dr w w' := by
  obtain ⟨A, c, hg, hA, hc, hne⟩ := h
  obtain ⟨c0, c1, c2, _, _⟩ := blk3 hg
  have KA := K.mk hA
  clear hg hA hne
  have S1 := K.mk (IntWalk.i64_in ((i : Int) + 1) (by omega))
  have S2 : K (((i : Int) + 1).toNat = i + 1) := ⟨by omega⟩
  by_cases h1 : i < bs.length
  · obtain ⟨ad, rfl, hn⟩ := KA.out.byte i h1
    have hget : bs[i]? = some bs[i] := List.getElem?_eq_getElem h1
    have hlt := UInt8.toNat_lt bs[i]
    generalize bs[i] = n at hn hget hlt
    by_cases h2 : 8 < n.toNat
    · have KE : K (numE bs i = (0, 9)) := ⟨by rw [numE, hget]; simp [h2]⟩
      clear hget
      go_enter Try.func30, Try.ntmps30
      go_wp2
      go_quiet (fail)
      go_wp2
      go_quiet (fail)
      go_wp2
      go_ret2
      exact ⟨by rw [KE.out]; rfl, by repeat' (first | exact Dr.refl _ | apply Dr.step)⟩
    · have b2 : decide (8 < (n.toNat : Int)) = false := by rw [decide_eq_false_iff_not]; omega
      have S3 := K.mk (IntWalk.i64_in ((i : Int) + 1 + n.toNat) (by omega))
      by_cases h3 : 0 < n.toNat
      · have b3 : decide (0 < (n.toNat : Int)) = true := by rw [decide_eq_true_eq]; omega
        by_cases h4 : i + 1 < bs.length
        · have b4 : (i : Int) + 1 < bs.length := by omega
          have b0 : 0 ≤ (i : Int) + 1 := by omega
          obtain ⟨_, e1, hm⟩ := KA.out.byte (i + 1) h4
          cases e1
          rw [add_succ] at hm
          have hget2 : bs[i + 1]? = some bs[i + 1] := List.getElem?_eq_getElem h4
          generalize bs[i + 1] = m at hm hget2
          by_cases h5 : m = 0
          · have KE : K (numE bs i = (0, 9)) := ⟨by rw [numE, hget]; simp [h2, h3, hget2, h5]⟩
            have b5 : ((m.toNat : Int) == 0) = true := by rw [h5]; rfl
            clear hget hget2 h5
            have s1 := S1.out
            have s2 := S2.out
            have s3 := S3.out
            go_enter Try.func30, Try.ntmps30
            go_wp2
            go_quiet (fail)
            go_wp2
            go_quiet (fail)
            go_wp2
            go_quiet (fail)
            go_wp2
            go_ret2
            exact ⟨by rw [KE.out]; rfl, by repeat' (first | exact Dr.refl _ | apply Dr.step)⟩
          · have b5 : ((m.toNat : Int) == 0) = false := by
              rw [beq_eq_false_iff_ne]; intro e; exact h5 (UInt8.toNat_inj.1 (by simpa using e))
            by_cases h6 : bs.length < i + 1 + n.toNat
            · have KE : K (numE bs i = (0, 8)) := ⟨by rw [numE, hget]; simp [h2, h3, hget2, h5, h6]⟩
              clear hget hget2 h5
              have s1 := S1.out
              have s2 := S2.out
              have s3 := S3.out
              go_enter Try.func30, Try.ntmps30
              go_wp2
              go_quiet (fail)
              go_wp2
              go_quiet (fail)
              go_wp2
              go_quiet (fail)
              go_wp2
              go_quiet (fail)
              go_wp2
              go_ret2
              exact ⟨by rw [KE.out]; rfl, by repeat' (first | exact Dr.refl _ | apply Dr.step)⟩
            · have KE : K (numE bs i = (i + 1 + n.toNat, 0)) := ⟨by rw [numE, hget]; simp [h2, h3, hget2, h5, h6]⟩
              clear hget hget2 h5
              have s1 := S1.out
              have s2 := S2.out
              have s3 := S3.out
              go_enter Try.func30, Try.ntmps30
              go_wp2
              go_quiet (fail)
              go_wp2
              go_quiet (fail)
              go_wp2
              go_quiet (fail)
              go_wp2
              go_quiet (fail)
              go_wp2
              go_ret2
              exact ⟨by rw [KE.out]; simp [Int.natCast_add], by repeat' (first | exact Dr.refl _ | apply Dr.step)⟩
        · have b4 : decide ((i : Int) + 1 < bs.length) = false := by rw [decide_eq_false_iff_not]; omega
          have hget2 : bs[i + 1]? = none := List.getElem?_eq_none (by omega)
          have KE : K (numE bs i = (0, 8)) := ⟨by rw [numE, hget]; simp [h2, h3, hget2]; omega⟩
          clear hget hget2
          have s1 := S1.out
          have s2 := S2.out
          have s3 := S3.out
          go_enter Try.func30, Try.ntmps30
          go_wp2
          go_quiet (fail)
          go_wp2
          go_quiet (fail)
          go_wp2
          go_quiet (fail)
          go_wp2
          go_quiet (fail)
          go_wp2
          go_ret2
          exact ⟨by rw [KE.out]; rfl, by repeat' (first | exact Dr.refl _ | apply Dr.step)⟩
      · have b3 : decide (0 < (n.toNat : Int)) = false := by rw [decide_eq_false_iff_not]; omega
        have KE : K (numE bs i = (i + 1 + n.toNat, 0)) := ⟨by rw [numE, hget]; simp [h2, h3]; omega⟩
        clear hget
        have s1 := S1.out
        have s2 := S2.out
        have s3 := S3.out
        go_enter Try.func30, Try.ntmps30
        go_wp2
        go_quiet (fail)
        go_wp2
        go_quiet (fail)
        go_wp2
        go_quiet (fail)
        go_wp2
        go_quiet (fail)
        go_wp2
        go_ret2
        exact ⟨by rw [KE.out]; simp [Int.natCast_add], by repeat' (first | exact Dr.refl _ | apply Dr.step)⟩
  · have KE : K (numE bs i = (0, 8)) := ⟨by rw [numE, List.getElem?_eq_none (by omega)]⟩
    go_enter Try.func30, Try.ntmps30
    go_wp2
    go_quiet (fail)
    go_wp2
    go_ret2
    exact ⟨by rw [KE.out]; rfl, by repeat' (first | exact Dr.refl _ | apply Dr.step)⟩
end Go.Proofs.Ytmoffojjdbmoiaa.code
