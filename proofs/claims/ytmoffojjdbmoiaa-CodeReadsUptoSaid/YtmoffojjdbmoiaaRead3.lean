/- Walks over chapter 1: a reader takes the next thing of a form. -/
import Derived.Test.YtmoffojjdbmoiaaRead2
set_option linter.unusedVariables false
set_option linter.unusedSimpArgs false
namespace Go.Proofs.Ytmoffojjdbmoiaa.code
open Go.RowKit Go.Proofs.Ytmoffojjdbmoiaa.b
variable {S : Nat → Prop}

theorem add_block (a : Addr) (n : Nat) : (a.add n).block = a.block := by unfold Addr.add; split <;> rfl
theorem IsRd.keep {w w' : World} {g : Nat} {bs : List UInt8} {a e : Nat} (h : IsRd S w g bs a e) (hb : Below w.heap.size w w') : IsRd S w' g bs a e := by
  obtain ⟨A, c, hg, hA, hc, hne⟩ := h
  exact ⟨A, c, (hb.block g (Array.getElem?_eq_some_iff.1 hg).1).trans hg, hA.below hb, hc, hne⟩
theorem IsRd.lt {w : World} {g : Nat} {bs : List UInt8} {a e : Nat} (h : IsRd S w g bs a e) : g < w.heap.size := by
  obtain ⟨A, c, hg, hA, hc, hne⟩ := h
  exact (Array.getElem?_eq_some_iff.1 hg).1
theorem Rv.set {w : World} {A : Option Addr} {vs : List Value} (h : Rv w A vs) (p : Addr) (u : Value) (hne : ∀ ad, A = some ad → vs ≠ [] → ad.block ≠ p.block) : Rv (w.setCell p u) A vs := by
  intro i v hv
  obtain ⟨ad, e, hc⟩ := h i v hv
  refine ⟨ad, e, ?_⟩
  rw [World.cell?_of_block (w := w) (Below.heap_setCell w p u _ (by rw [add_block]; exact hne ad e (by intro e0; rw [e0] at hv; simp at hv)))]
  exact hc
theorem IsRd.set1 {w : World} {g : Nat} {bs : List UInt8} {a e : Nat} (h : IsRd S w g bs a e) (x : Nat) : IsRd S (w.setCell ⟨g, 1, none⟩ (.int .i64 (x : Int))) g bs x e := by
  obtain ⟨A, c, hg, hA, hc, hne⟩ := h
  exact ⟨A, c, by rw [heap_setCell_same w g 1 _ _ _ hg]; rfl, Rv.set hA _ _ (fun ad h _ => (hne ad h).1), hc, hne⟩
theorem IsRd.set2 {w : World} {g : Nat} {bs : List UInt8} {a e : Nat} (h : IsRd S w g bs a e) (x : Nat) : IsRd S (w.setCell ⟨g, 2, none⟩ (.int .i64 (x : Int))) g bs a x := by
  obtain ⟨A, c, hg, hA, hc, hne⟩ := h
  exact ⟨A, c, by rw [heap_setCell_same w g 2 _ _ _ hg]; rfl, Rv.set hA _ _ (fun ad h _ => (hne ad h).1), hc, hne⟩
theorem IsRd.cells {w : World} {g : Nat} {bs : List UInt8} {a e : Nat} (h : IsRd S w g bs a e) : ∃ A c, w.cell? ⟨g, 0, none⟩ = some (.slice A bs.length c) ∧ w.cell? ⟨g, 1, none⟩ = some (.int .i64 (a : Int)) ∧ w.cell? ⟨g, 2, none⟩ = some (.int .i64 (e : Int)) ∧ w.frozen? ⟨g, 1, none⟩ = false ∧ w.frozen? ⟨g, 2, none⟩ = false ∧ bs.length ≤ c ∧ Rv w A (bvs bs) := by
  obtain ⟨A, c, hg, hA, hc, hne⟩ := h
  obtain ⟨c0, c1, c2, f1, f2⟩ := blk3 hg
  exact ⟨A, c, c0, c1, c2, f1, f2, hc, hA⟩
theorem numE_le (bs : List UInt8) (i : Nat) (h : (numE bs i).2 = 0) : i < (numE bs i).1 ∧ (numE bs i).1 ≤ bs.length := by
  unfold numE at h ⊢
  split
  · rename_i e; rw [e] at h; simp at h
  · rename_i n e
    rw [e] at h
    simp only at h ⊢
    split
    · rename_i h2; rw [if_pos h2] at h; simp at h
    · rename_i h2
      rw [if_neg h2] at h
      split
      · rename_i h3; rw [if_pos h3] at h; simp at h
      · rename_i h3
        rw [if_neg h3] at h
        split
        · rename_i h4; rw [if_pos h4] at h; simp at h
        · simp; omega

theorem txtE_le (bs : List UInt8) (i : Nat) : (txtE bs i).2 = 0 → i + 2 ≤ (txtE bs i).1 ∧ (txtE bs i).1 ≤ bs.length := by
  fun_induction txtE bs i with
  | case1 i h h1 ih => intro h2; have := ih h2; omega
  | case2 i h h1 h2 h3 => intro _; simp; omega
  | case3 i h h1 h2 h3 h4 ih => intro h5; have := ih h5; omega
  | case4 => intro h; simp at h
  | case5 => intro h; simp at h
  | case6 => intro h; simp at h
theorem gset (w : World) (g o : Nat) (v : Value) : w.grownBy (w.setCell ⟨g, o, none⟩ v) (some g) :=
  ⟨rfl, rfl, rfl, by simp, fun k _ hk => heap_setCell_other w ⟨g, o, none⟩ k v (fun e => hk (by simp [e]))⟩
theorem gbel {w w' : World} (h : Below w.heap.size w w') (r : Option Nat) : w.grownBy w' r := ⟨h.os, h.tape, h.output, h.size, fun k hk _ => h.block k hk⟩
theorem cut_rv {w : World} {A : Option Addr} {bs : List UInt8} (h : Rv w A (bvs bs)) (i j : Nat) (hi : i < j) (hj : j ≤ bs.length) : Rv w (A.map fun x => x.add i) (bvs ((bs.take j).drop i)) := by
  intro k v hv
  have hkl : k < (bvs ((bs.take j).drop i)).length := (List.getElem?_eq_some_iff.1 hv).1
  simp [bvs_length] at hkl
  have : (bvs bs)[i + k]? = some v := by
    simp only [bvs, List.getElem?_map, List.getElem?_drop, List.getElem?_take] at hv ⊢
    rw [if_pos (by omega)] at hv
    exact hv
  obtain ⟨ad, rfl, hc⟩ := h _ _ this
  exact ⟨ad.add i, rfl, by rw [Addr.add_add]; exact hc⟩

theorem take_nil (x : Int) (w : World) :
    Calls Try.prog 27 #[.pointer none, .int .i64 x] w fun e w' => e = .returned (.slice none 0 0) ∧ w' = w := by
  go_enter Try.func27, Try.ntmps27
  go_wp2
  go_ret
  exact ⟨rfl, rfl⟩
theorem take_err (x : Int) (g : Nat) (bs : List UInt8) (i er : Nat) (w : World) (h : IsRd S w g bs i er) (he : er ≠ 0) :
    Calls Try.prog 27 #[.pointer (some ⟨g, 0, none⟩), .int .i64 x] w fun e w' => e = .returned (.slice none 0 0) ∧ w' = w := by
  obtain ⟨A, c, c0, c1, c2, f1, f2, hc, hA⟩ := h.cells
  have b1 : ((er : Int) != 0) = true := by rw [bne_iff_ne]; omega
  clear h hA he
  go_enter Try.func27, Try.ntmps27
  go_wp2
  go_ret
  exact ⟨rfl, rfl⟩

set_option maxHeartbeats 2000000 in
theorem take_num (g : Nat) (bs : List UInt8) (i : Nat) (w : World) (h : IsRd S w g bs i 0) (hi : i ≤ bs.length) (hb : bs.length ≤ 140737488351232) (hE : (numE bs i).2 = 0) :
    Calls Try.prog 27 #[.pointer (some ⟨g, 0, none⟩), .int .i64 0] w fun e w' => ∃ A c, e = .returned (.slice A ((numE bs i).1 - i) c) ∧ Rv w' A (bvs ((bs.take (numE bs i).1).drop i)) ∧ IsRd S w' g bs (numE bs i).1 0 ∧ w.grownBy w' (some g) := by
  obtain ⟨hlt0, hle⟩ := numE_le bs i hE
  have hlt : i < (numE bs i).1 := by omega
  have KH := K.mk h
  obtain ⟨A, c, c0, c1, c2, f1, f2, hc, hA⟩ := h.cells
  have hsz := h.lt
  clear h hA
  go_enter Try.func27, Try.ntmps27
  go_wp2_with fail
  refine (number_calls g bs i _ (KH.out.keep ((Below.refl _ w).alloc (Nat.le_refl _) _)) hi hb).mono ?_
  rintro e w1 ⟨rfl, KD0⟩
  have KD := KD0
  clear KD0
  have KD1 := (Dr.below KD w.heap.size)
  have KB1 := K.mk (((Below.refl _ w).alloc (Nat.le_refl _) _).trans KD1)
  clear KD1 KD
  have KH1 := K.mk (KH.out.keep KB1.out)
  obtain ⟨A1, cc1, d0, d1, d2, g1, g2, hcc1, hA1⟩ := KH1.out.cells
  have KA1 := K.mk hA1
  clear hA1
  go_wp2_with fail
  go_quiet (fail)
  go_wp2
  go_ret
  have hb2 : Below w1.heap.size w1 (w1.drewN nq) := Dr.below ⟨nq, rfl⟩ _
  refine ⟨_, _, rfl, ?_, (KH1.out.keep hb2).set1 _, World.grownBy.trans (gbel (thn KB1.out hb2) _) (gset _ _ _ _)⟩
  have hne : ∀ ad, A1 = some ad → ad.block ≠ g := by
    obtain ⟨A', c', hg, _, _, hne⟩ := KH1.out
    obtain ⟨e0, _⟩ := blk3 hg
    rw [e0] at d0
    simp at d0
    rw [← d0.1]
    exact fun ad h => (hne ad h).1
  refine cut_rv (Rv.set (KA1.out.below hb2) _ _ (fun ad h _ => hne ad h)) i _ hlt hle

set_option maxHeartbeats 2000000 in
theorem take_numbad (g : Nat) (bs : List UInt8) (i : Nat) (w : World) (h : IsRd S w g bs i 0) (hi : i ≤ bs.length) (hb : bs.length ≤ 140737488351232) (hE : (numE bs i).2 ≠ 0) :
    Calls Try.prog 27 #[.pointer (some ⟨g, 0, none⟩), .int .i64 0] w fun e w' => e = .returned (.slice none 0 0) ∧ IsRd S w' g bs i (numE bs i).2 ∧ w.grownBy w' (some g) := by
  have b1 : (((numE bs i).2 : Int) != 0) = true := by rw [bne_iff_ne]; omega
  have KH := K.mk h
  obtain ⟨A, c, c0, c1, c2, f1, f2, hc, hA⟩ := h.cells
  have hsz := h.lt
  clear h hA hE
  go_enter Try.func27, Try.ntmps27
  go_wp2_with fail
  refine (number_calls g bs i _ (KH.out.keep ((Below.refl _ w).alloc (Nat.le_refl _) _)) hi hb).mono ?_
  rintro e w1 ⟨rfl, KD0⟩
  have KD := KD0
  clear KD0
  have KD1 := (Dr.below KD w.heap.size)
  have KB1 := K.mk (((Below.refl _ w).alloc (Nat.le_refl _) _).trans KD1)
  clear KD1 KD
  have KH1 := K.mk (KH.out.keep KB1.out)
  obtain ⟨A1, cc1, d0, d1, d2, g1, g2, hcc1, hA1⟩ := KH1.out.cells
  clear hA1
  go_wp2
  go_ret
  exact ⟨rfl, KH1.out.set2 _, World.grownBy.trans (gbel KB1.out _) (gset _ _ _ _)⟩

set_option maxHeartbeats 2000000 in
theorem take_text (g : Nat) (bs : List UInt8) (i : Nat) (w : World) (h : IsRd S w g bs i 0) (hi : i ≤ bs.length) (hb : bs.length ≤ 140737488351232) (hE : (txtE bs i).2 = 0) :
    Calls Try.prog 27 #[.pointer (some ⟨g, 0, none⟩), .int .i64 1] w fun e w' => ∃ A c, e = .returned (.slice A ((txtE bs i).1 - i) c) ∧ Rv w' A (bvs ((bs.take (txtE bs i).1).drop i)) ∧ IsRd S w' g bs (txtE bs i).1 0 ∧ w.grownBy w' (some g) := by
  obtain ⟨hlt0, hle⟩ := txtE_le bs i hE
  have hlt : i < (txtE bs i).1 := by omega
  have KH := K.mk h
  obtain ⟨A, c, c0, c1, c2, f1, f2, hc, hA⟩ := h.cells
  have hsz := h.lt
  clear h hA
  go_enter Try.func27, Try.ntmps27
  go_wp2_with fail
  refine (text_calls g bs i _ (KH.out.keep ((Below.refl _ w).alloc (Nat.le_refl _) _)) hi hb).mono ?_
  rintro e w1 ⟨rfl, KD0⟩
  have KD := Dr.of_eq KD0
  clear KD0
  have KD1 := (Dr.below KD w.heap.size)
  have KB1 := K.mk (((Below.refl _ w).alloc (Nat.le_refl _) _).trans KD1)
  clear KD1 KD
  have KH1 := K.mk (KH.out.keep KB1.out)
  obtain ⟨A1, cc1, d0, d1, d2, g1, g2, hcc1, hA1⟩ := KH1.out.cells
  have KA1 := K.mk hA1
  clear hA1
  go_wp2_with fail
  go_quiet (fail)
  go_wp2
  go_ret
  have hb2 : Below w1.heap.size w1 (w1.drewN nq) := Dr.below ⟨nq, rfl⟩ _
  refine ⟨_, _, rfl, ?_, (KH1.out.keep hb2).set1 _, World.grownBy.trans (gbel (thn KB1.out hb2) _) (gset _ _ _ _)⟩
  have hne : ∀ ad, A1 = some ad → ad.block ≠ g := by
    obtain ⟨A', c', hg, _, _, hne⟩ := KH1.out
    obtain ⟨e0, _⟩ := blk3 hg
    rw [e0] at d0
    simp at d0
    rw [← d0.1]
    exact fun ad h => (hne ad h).1
  refine cut_rv (Rv.set (KA1.out.below hb2) _ _ (fun ad h _ => hne ad h)) i _ hlt hle

set_option maxHeartbeats 2000000 in
theorem take_textbad (g : Nat) (bs : List UInt8) (i : Nat) (w : World) (h : IsRd S w g bs i 0) (hi : i ≤ bs.length) (hb : bs.length ≤ 140737488351232) (hE : (txtE bs i).2 ≠ 0) :
    Calls Try.prog 27 #[.pointer (some ⟨g, 0, none⟩), .int .i64 1] w fun e w' => e = .returned (.slice none 0 0) ∧ IsRd S w' g bs i (txtE bs i).2 ∧ w.grownBy w' (some g) := by
  have b1 : (((txtE bs i).2 : Int) != 0) = true := by rw [bne_iff_ne]; omega
  have KH := K.mk h
  obtain ⟨A, c, c0, c1, c2, f1, f2, hc, hA⟩ := h.cells
  have hsz := h.lt
  clear h hA hE
  go_enter Try.func27, Try.ntmps27
  go_wp2_with fail
  refine (text_calls g bs i _ (KH.out.keep ((Below.refl _ w).alloc (Nat.le_refl _) _)) hi hb).mono ?_
  rintro e w1 ⟨rfl, KD0⟩
  have KD := Dr.of_eq KD0
  clear KD0
  have KD1 := (Dr.below KD w.heap.size)
  have KB1 := K.mk (((Below.refl _ w).alloc (Nat.le_refl _) _).trans KD1)
  clear KD1 KD
  have KH1 := K.mk (KH.out.keep KB1.out)
  obtain ⟨A1, cc1, d0, d1, d2, g1, g2, hcc1, hA1⟩ := KH1.out.cells
  clear hA1
  go_wp2
  go_ret
  exact ⟨rfl, KH1.out.set2 _, World.grownBy.trans (gbel KB1.out _) (gset _ _ _ _)⟩
end Go.Proofs.Ytmoffojjdbmoiaa.code
