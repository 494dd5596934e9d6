/- Walks over the help package: a copy with room behind it, and whether it was kept. -/
import Derived.Test.YtmoffojjdbmoiaaHelp1
set_option linter.unusedVariables false
set_option linter.unusedSimpArgs false
namespace Go.Proofs.Ytmoffojjdbmoiaa.help
open Go.RowKit Go.Proofs.Ytmoffojjdbmoiaa.b

theorem infob : (Try.prog.info? 5).map (fun i => (i.zero, i.size, i.bytes)) = some (some (.int .u8 0), 1, 1) := by kernel_rfl

set_option maxHeartbeats 1000000 in
theorem Ownb_calls (A : Option Addr) (n c : Nat) (vs : List Value) (f : Int) (w : World) (hA : Rv w A vs) (hn : vs.length = n) (h1 : ∀ u ∈ vs, u.oneCell' = true) (hb : n ≤ 140737488351232) :
    Calls Try.prog 8 #[.slice A n c, .int .u8 f] w fun e w' => ∃ g, e = .returned (.slice (some ⟨g, 0, none⟩) n (n + 3)) ∧ w'.ownsRow w.heap.size 5 1 (.slice (some ⟨g, 0, none⟩) (n + 3) (n + 3)) (n + 3) (vs ++ [.int .u8 f, .int .u8 f, .int .u8 f]) ∧ Below w.heap.size w w' := by
  have KA := K.mk hA
  have K1 := K.mk h1
  have KB := K.mk (Below.refl w.heap.size w)
  clear hA h1
  subst hn
  go_enter Try.func8, Try.ntmps8
  go_wp2_with (first
    | (at_make; refine mk0 rfl _ _ 23 5 (.int .u8 0) 1 1 rfl rfl infob .i64 .i64 _ (vs.length + 3) rfl rfl (by omega) (by assumption) (Nat.le_refl _) (by omega) (by omega) ?_; intro w1 KO1 KB1 KC1; have hB1 := KB1.out.size)
    | (at_builtin; refine appFits rfl _ _ 23 5 (.int .u8 0) 1 1 rfl rfl infob (by decide) _ _ _ _ _ _ _ vs rfl rfl (by simp) (by assumption) KB1 (by omega) (KA.out.below KC1.out) K1.out (by omega) ?_; intro w2 KO2 KB2 _; have hB2 := KB2.out.size))
  obtain ⟨ys, hys, htk, _⟩ := own_full KO2.out
  have KY : K (∃ zs, zs.length + 0 = 3 ∧ w2.ownsRow w.heap.size 5 1 (.slice (some ⟨w.heap.size, 0, none⟩) (vs.length + 3) (vs.length + 3)) (vs.length + 3) (vs ++ List.replicate 0 (.int .u8 f) ++ zs)) := by
    refine ⟨ys.drop vs.length, ?_, ?_⟩
    · have := hys.1; simp; omega
    · have e : ys = vs ++ ys.drop vs.length := by
        conv => lhs; rw [← List.take_append_drop vs.length ys]
        congr 1
        simpa using htk
      simpa [← e] using hys
  clear hys htk
  go_loopw [7] (fun i wr => ∃ j : Nat, j ≤ 3 ∧ i = .int .i64 ((vs.length : Int) + j) ∧ K (∃ zs, zs.length + j = 3 ∧ wr.ownsRow w.heap.size 5 1 (.slice (some ⟨w.heap.size, 0, none⟩) (vs.length + 3) (vs.length + 3)) (vs.length + 3) (vs ++ List.replicate j (.int .u8 f) ++ zs)) ∧ K (Below w.heap.size w wr)) (fun i _ => vs.length + 3 - (intOf i).toNat)
  case atStart => exact ⟨0, by omega, by simp, KY, KB2⟩
  case round =>
    obtain ⟨j, hj, rfl, KY, KB⟩ := hrel
    obtain ⟨zs, hz, hown⟩ := KY.out
    by_cases hlt : j < 3
    · have hfz := hown.frozenAt (vs.length + j)
      have hcl : wr.cell? ⟨w.heap.size, vs.length + j, none⟩ = some (zs.getD 0 undef) := by
        rw [hown.cellAt _ (by omega), List.getElem?_append_right (by simp), List.length_append, List.length_replicate, Nat.sub_self]
        cases zs with
        | nil => simp at hz; omega
        | cons z r => rfl
      have hst := hown.stored (vs.length + j) (.int .u8 f)
      have KS := K.mk hst
      have e1 : ((vs.length : Int) + j).toNat = vs.length + j := by omega
      clear hst hown KY
      go_wp2
      go_roundw
      case rel => exact ⟨j + 1, by omega, by go_num, ⟨zs.drop 1, by simp; omega, by
        have h := KS.out.1
        rw [List.set_append_right _ _ (by simp), List.length_append, List.length_replicate, Nat.sub_self] at h
        cases zs with
        | nil => simp at hz; omega
        | cons z r => simpa [List.replicate_succ', List.append_assoc] using h⟩, ⟨KB.out.setCell (Nat.le_refl _) _⟩⟩
      case measure => simp [intOf]; omega
    · have : j = 3 := by omega
      subst this
      have KH := K.mk hown
      clear hown KY
      go_wp2
      go_ret
      refine ⟨w.heap.size, rfl, ?_, KB.out⟩
      have e : zs = [] := List.eq_nil_of_length_eq_zero (by omega)
      subst e
      simpa [List.replicate] using KH.out

/-- A copy with room behind it that nobody has touched: it was kept. -/
theorem Keptb_calls (B : Option Addr) (g n d : Nat) (xs : List UInt8) (f : Int) (w : World) (hA : Rv w (some ⟨g, 0, none⟩) (bvs xs ++ [.int .u8 f, .int .u8 f, .int .u8 f])) (hB : Rv w B (bvs xs)) (hn : xs.length = n) (hb : n ≤ 140737488351232) :
    Calls Try.prog 15 #[.slice (some ⟨g, 0, none⟩) n (n + 3), .slice B n d, .int .u8 f] w fun e w' => e = .returned (.bool true) ∧ Dr w w' := by
  have hp := Plainb_calls (some ⟨g, 0, none⟩) B n n (n + 3) d xs xs w (by have := hA.take xs.length; simpa [bvs_length] using this) hB hn hn (by omega) (by omega)
  have KP := K.mk hp
  have KA := K.mk hA
  subst hn
  clear hp hA hB
  go_enter Try.func15, Try.ntmps15
  go_wp2_with (go_at_call 26; refine KP.out.mono ?_; rintro e w1 ⟨rfl, KD⟩)
  go_loop [8] (fun i => ∃ j : Nat, j ≤ 3 ∧ i = .int .i64 ((xs.length : Int) + j)) (fun i => xs.length + 3 - (intOf i).toNat)
  case atStart => exact ⟨0, by omega, by simp⟩
  case round =>
    obtain ⟨j, hj, rfl⟩ := hrel
    by_cases hlt : j < 3
    · obtain ⟨ad, had, hc⟩ := (KD.rv KA.out) (xs.length + j) (.int .u8 f) (by
        rw [List.getElem?_append_right (by simp [bvs_length]), bvs_length, Nat.add_sub_cancel_left]
        match j, hlt with
        | 0, _ => rfl
        | 1, _ => rfl
        | 2, _ => rfl)
      cases had
      rw [Addr.add_lit, Nat.zero_add] at hc
      have e1 : ((xs.length : Int) + j).toNat = xs.length + j := by omega
      go_wp2
      go_round
      case rel => exact ⟨j + 1, by omega, by go_num⟩
      case measure => simp [intOf]; omega
    · have : j = 3 := by omega
      subst this
      go_wp2
      go_ret
      exact ⟨rfl, KD⟩

/-- Spoil: each byte is another one, nothing else is written. -/
theorem Spoil_calls (g n c : Nat) (xs : List UInt8) (w : World) (base : Nat) (hO : w.ownsRow base 5 1 (.slice (some ⟨g, 0, none⟩) n c) n (bvs xs)) (hb : n ≤ 140737488351232) :
    Calls Try.prog 17 #[.slice (some ⟨g, 0, none⟩) n c] w fun e w' => e = .returned (.tuple #[]) ∧ w.grownBy w' (some g) := by
  have KO := K.mk hO
  clear hO
  go_enter Try.func17, Try.ntmps17
  go_wp2
  go_loopw [2] (fun i wr => ∃ k : Nat, k ≤ n ∧ i = .int .i64 k ∧ K (∃ ys : List Int, wr.ownsRow base 5 1 (.slice (some ⟨g, 0, none⟩) n c) n (ys.map (Value.int .u8))) ∧ K (w.grownBy wr (some g))) (fun i _ => n - (intOf i).toNat)
  case atStart => exact ⟨0, by omega, rfl, ⟨xs.map fun b => (b.toNat : Int), by rw [List.map_map]; exact KO.out⟩, ⟨World.grownBy.refl _ _⟩⟩
  case round =>
    obtain ⟨k, hk, rfl, ⟨ys, hys⟩, KG⟩ := hrel
    by_cases hlt : k < n
    · have hlen : ys.length = n := by have := hys.1; simpa using this
      have hfz := hys.frozenAt k
      have hcl : wr.cell? ⟨g, k, none⟩ = some (.int .u8 ys[k]) := by
        rw [hys.cellAt k (by omega)]
        simp [List.getElem?_eq_getElem (show k < ys.length by omega)]
      have KY := K.mk hys
      clear hys
      go_wp2
      go_roundw
      case rel => exact ⟨k + 1, by omega, by go_num, ⟨ys.set k _, by rw [List.map_set]; exact (KY.out.stored k _).1⟩, ⟨World.grownBy.trans KG.out (KY.out.stored k _).2⟩⟩
      case measure => simp [intOf]; omega
    · go_wp2
      go_end0
      exact ⟨rfl, KG.out⟩
end Go.Proofs.Ytmoffojjdbmoiaa.help
