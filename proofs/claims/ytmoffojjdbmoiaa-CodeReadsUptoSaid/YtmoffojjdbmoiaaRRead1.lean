/- Walks over chapter 1: the reference's reader: Num. -/
import Derived.Test.YtmoffojjdbmoiaaRead5
import Derived.StillTailTactics
set_option linter.unusedVariables false
set_option linter.unusedSimpArgs false
namespace Go.Proofs.Ytmoffojjdbmoiaa.code
open Go.RowKit Go.Proofs.Ytmoffojjdbmoiaa.b
variable {S : Nat → Prop}

/-- The reference's reader. -/
def IsRr (S : Nat → Prop) (w : World) (g : Nat) (bs : List UInt8) (at_ err : Nat) : Prop :=
  ∃ A c, w.heap[g]? = some (.cells #[.slice A bs.length c, .int .i64 (at_ : Int), .int .i64 (err : Int)] 38 (0, 0)) ∧ Rv w A (bvs bs) ∧ bs.length ≤ c ∧ (∀ ad, A = some ad → bvs bs ≠ [] → ad.block ≠ g ∧ S ad.block)
theorem IsRr.keep {w w' : World} {g : Nat} {bs : List UInt8} {a e : Nat} (h : IsRr S w g bs a e) (hb : Below w.heap.size w w') : IsRr S w' g bs a e := by
  obtain ⟨A, c, hg, hA, hc, hne⟩ := h
  exact ⟨A, c, (hb.block g (Array.getElem?_eq_some_iff.1 hg).1).trans hg, hA.below hb, hc, hne⟩
theorem IsRr.lt {w : World} {g : Nat} {bs : List UInt8} {a e : Nat} (h : IsRr S w g bs a e) : g < w.heap.size := by
  obtain ⟨A, c, hg, hA, hc, hne⟩ := h
  exact (Array.getElem?_eq_some_iff.1 hg).1
theorem IsRr.set1 {w : World} {g : Nat} {bs : List UInt8} {a e : Nat} (h : IsRr S w g bs a e) (x : Nat) : IsRr S (w.setCell ⟨g, 1, none⟩ (.int .i64 (x : Int))) g bs x e := by
  obtain ⟨A, c, hg, hA, hc, hne⟩ := h
  exact ⟨A, c, by rw [heap_setCell_same w g 1 _ _ _ hg]; rfl, Rv.set hA _ _ (fun ad h hx => (hne ad h hx).1), hc, hne⟩
theorem IsRr.set2 {w : World} {g : Nat} {bs : List UInt8} {a e : Nat} (h : IsRr S w g bs a e) (x : Nat) : IsRr S (w.setCell ⟨g, 2, none⟩ (.int .i64 (x : Int))) g bs a x := by
  obtain ⟨A, c, hg, hA, hc, hne⟩ := h
  exact ⟨A, c, by rw [heap_setCell_same w g 2 _ _ _ hg]; rfl, Rv.set hA _ _ (fun ad h hx => (hne ad h hx).1), hc, hne⟩
theorem IsRr.cells {w : World} {g : Nat} {bs : List UInt8} {a e : Nat} (h : IsRr S w g bs a e) : ∃ A c, w.cell? ⟨g, 0, none⟩ = some (.slice A bs.length c) ∧ w.cell? ⟨g, 1, none⟩ = some (.int .i64 (a : Int)) ∧ w.cell? ⟨g, 2, none⟩ = some (.int .i64 (e : Int)) ∧ w.frozen? ⟨g, 1, none⟩ = false ∧ w.frozen? ⟨g, 2, none⟩ = false ∧ bs.length ≤ c ∧ Rv w A (bvs bs) := by
  obtain ⟨A, c, hg, hA, hc, hne⟩ := h
  obtain ⟨c0, c1, c2, f1, f2⟩ := blk3 hg
  exact ⟨A, c, c0, c1, c2, f1, f2, hc, hA⟩

theorem RrNum_err (g : Nat) (bs : List UInt8) (i er : Nat) (w : World) (h : IsRr S w g bs i er) (he : er ≠ 0) :
    Calls Try.prog 21 #[.pointer (some ⟨g, 0, none⟩)] w fun e w' => e = .returned (.int .u64 0) ∧ w' = w := by
  obtain ⟨A, c, c0, c1, c2, f1, f2, hc, hA⟩ := h.cells
  have b1 : ((er : Int) != 0) = true := by rw [bne_iff_ne]; omega
  clear h hA he
  go_enter Try.func21, Try.ntmps21
  go_wp2
  go_ret
  exact ⟨rfl, rfl⟩

set_option maxHeartbeats 4000000 in
theorem RrNum_short0 (g : Nat) (bs : List UInt8) (i : Nat) (w : World) (h : IsRr S w g bs i 0) (hi : bs.length = i) :
    Calls Try.prog 21 #[.pointer (some ⟨g, 0, none⟩)] w fun e w' => e = .returned (.int .u64 0) ∧ IsRr S w' g bs i 8 ∧ w.grownBy w' (some g) := by
  have KH := K.mk h
  obtain ⟨A, c, c0, c1, c2, f1, f2, hc, hA⟩ := h.cells
  subst hi
  clear h hA
  go_enter Try.func21, Try.ntmps21
  go_wp2
  go_quiet (fail)
  go_wp2
  all_goals
    go_ret
    have hb2 : Below w.heap.size w (w.drewN nq) := Dr.below ⟨nq, rfl⟩ _
    exact ⟨rfl, (KH.out.keep hb2).set2 8, World.grownBy.trans (gbel hb2 _) (gset _ _ _ _)⟩

set_option maxHeartbeats 4000000 in
theorem RrNum_big (g : Nat) (bs : List UInt8) (i : Nat) (w : World) (h : IsRr S w g bs i 0) (hi : i < bs.length) (hb : bs.length ≤ 140737488351232) (h8 : 8 < (bs[i]).toNat) :
    Calls Try.prog 21 #[.pointer (some ⟨g, 0, none⟩)] w fun e w' => e = .returned (.int .u64 0) ∧ IsRr S w' g bs i 9 ∧ w.grownBy w' (some g) := by
  have KH := K.mk h
  obtain ⟨A, c, c0, c1, c2, f1, f2, hc, hA⟩ := h.cells
  obtain ⟨ad, rfl, hn⟩ := hA.byte i hi
  have b8 : decide (8 < ((bs[i]).toNat : Int)) = true := by rw [decide_eq_true_eq]; omega
  clear h hA
  go_enter Try.func21, Try.ntmps21
  go_wp2
  go_quiet (fail)
  go_wp2
  go_ret
  have hb2 : Below w.heap.size w (w.drewN nq) := Dr.below ⟨nq, rfl⟩ _
  exact ⟨rfl, (KH.out.keep hb2).set2 9, World.grownBy.trans (gbel hb2 _) (gset _ _ _ _)⟩

set_option maxHeartbeats 4000000 in
theorem RrNum_zero (g : Nat) (bs : List UInt8) (i : Nat) (w : World) (h : IsRr S w g bs i 0) (hi : i < bs.length) (hb : bs.length ≤ 140737488351232) (h8 : (bs[i]).toNat ≤ 8) (h0 : 0 < (bs[i]).toNat) (h1 : i + 1 < bs.length) (hz : bs[i + 1]'h1 = 0) :
    Calls Try.prog 21 #[.pointer (some ⟨g, 0, none⟩)] w fun e w' => e = .returned (.int .u64 0) ∧ IsRr S w' g bs i 9 ∧ w.grownBy w' (some g) := by
  have KH := K.mk h
  obtain ⟨A, c, c0, c1, c2, f1, f2, hc, hA⟩ := h.cells
  obtain ⟨ad, rfl, hn⟩ := hA.byte i hi
  have hn1 : w.cell? ⟨(ad.add i).block, (ad.add i).off + 1, none⟩ = some (.int .u8 ((bs[i + 1]'h1).toNat : Int)) := by
    obtain ⟨_, e1, hm⟩ := hA.byte (i + 1) h1
    cases e1
    rw [← hm, ← Addr.add_add, add_succ]
  rw [hz] at hn1
  have b8 : decide (8 < ((bs[i]).toNat : Int)) = false := by rw [decide_eq_false_iff_not]; omega
  have b0 : decide (0 < ((bs[i]).toNat : Int)) = true := by rw [decide_eq_true_eq]; omega
  have bl : decide (1 < ((bs.length - i : Nat) : Int)) = true := by rw [decide_eq_true_eq]; omega
  clear hz
  clear h hA
  go_enter Try.func21, Try.ntmps21
  go_wp2
  go_quiet (fail)
  go_wp2
  go_ret
  have hb2 : Below w.heap.size w (w.drewN nq) := Dr.below ⟨nq, rfl⟩ _
  exact ⟨rfl, (KH.out.keep hb2).set2 9, World.grownBy.trans (gbel hb2 _) (gset _ _ _ _)⟩

set_option maxHeartbeats 4000000 in
theorem RrNum_sh1 (g : Nat) (bs : List UInt8) (i : Nat) (w : World) (h : IsRr S w g bs i 0) (hi : i < bs.length) (hb : bs.length ≤ 140737488351232) (h8 : (bs[i]).toNat ≤ 8) (h0 : 0 < (bs[i]).toNat) (h1 : i + 1 < bs.length) (hz : bs[i + 1]'h1 ≠ 0) (hs : bs.length < i + 1 + (bs[i]).toNat) :
    Calls Try.prog 21 #[.pointer (some ⟨g, 0, none⟩)] w fun e w' => e = .returned (.int .u64 0) ∧ IsRr S w' g bs i 8 ∧ w.grownBy w' (some g) := by
  have KH := K.mk h
  obtain ⟨A, c, c0, c1, c2, f1, f2, hc, hA⟩ := h.cells
  obtain ⟨ad, rfl, hn⟩ := hA.byte i hi
  have hn1 : w.cell? ⟨(ad.add i).block, (ad.add i).off + 1, none⟩ = some (.int .u8 ((bs[i + 1]'h1).toNat : Int)) := by
    obtain ⟨_, e1, hm⟩ := hA.byte (i + 1) h1
    cases e1
    rw [← hm, ← Addr.add_add, add_succ]
  have b8 : decide (8 < ((bs[i]).toNat : Int)) = false := by rw [decide_eq_false_iff_not]; omega
  have b0 : decide (0 < ((bs[i]).toNat : Int)) = true := by rw [decide_eq_true_eq]; omega
  have bl : decide (1 < ((bs.length - i : Nat) : Int)) = true := by rw [decide_eq_true_eq]; omega
  have bz : (((bs[i + 1]'h1).toNat : Int) == 0) = false := by
    rw [beq_eq_false_iff_ne]; intro e; exact hz (UInt8.toNat_inj.1 (by simpa using e))
  clear hz
  clear h hA
  go_enter Try.func21, Try.ntmps21
  go_wp2
  go_quiet (fail)
  go_wp2
  go_ret
  have hb2 : Below w.heap.size w (w.drewN nq) := Dr.below ⟨nq, rfl⟩ _
  exact ⟨rfl, (KH.out.keep hb2).set2 8, World.grownBy.trans (gbel hb2 _) (gset _ _ _ _)⟩

set_option maxHeartbeats 4000000 in
theorem RrNum_sh2 (g : Nat) (bs : List UInt8) (i : Nat) (w : World) (h : IsRr S w g bs i 0) (hi : i < bs.length) (hb : bs.length ≤ 140737488351232) (h8 : (bs[i]).toNat ≤ 8) (h0 : 0 < (bs[i]).toNat) (h1 : i + 1 = bs.length) :
    Calls Try.prog 21 #[.pointer (some ⟨g, 0, none⟩)] w fun e w' => e = .returned (.int .u64 0) ∧ IsRr S w' g bs i 8 ∧ w.grownBy w' (some g) := by
  have KH := K.mk h
  obtain ⟨A, c, c0, c1, c2, f1, f2, hc, hA⟩ := h.cells
  obtain ⟨ad, rfl, hn⟩ := hA.byte i hi
  have b8 : decide (8 < ((bs[i]).toNat : Int)) = false := by rw [decide_eq_false_iff_not]; omega
  have bl : decide (1 < ((bs.length - i : Nat) : Int)) = false := by rw [decide_eq_false_iff_not]; omega
  clear h hA
  go_enter Try.func21, Try.ntmps21
  go_wp2
  go_quiet (fail)
  go_wp2
  go_ret
  have hb2 : Below w.heap.size w (w.drewN nq) := Dr.below ⟨nq, rfl⟩ _
  exact ⟨rfl, (KH.out.keep hb2).set2 8, World.grownBy.trans (gbel hb2 _) (gset _ _ _ _)⟩

theorem seg_snoc (bs : List UInt8) (i m : Nat) (h : i + m < bs.length) (hm : 1 ≤ m) : (bs.take (i + m + 1)).drop (i + 1) = (bs.take (i + m)).drop (i + 1) ++ [bs[i + m]] := by
  rw [List.take_succ_eq_append_getElem h, List.drop_append_of_le_length (by simp; omega)]

set_option maxHeartbeats 4000000 in
theorem RrNum_ok1 (g : Nat) (bs : List UInt8) (i : Nat) (w : World) (h : IsRr S w g bs i 0) (hi : i < bs.length) (hb : bs.length ≤ 140737488351232) (h8 : (bs[i]).toNat ≤ 8) (hs : i + 1 + (bs[i]).toNat ≤ bs.length) (h0 : 0 < (bs[i]).toNat) (h1 : i + 1 < bs.length) (hz : bs[i + 1]'h1 ≠ 0) :
    Calls Try.prog 21 #[.pointer (some ⟨g, 0, none⟩)] w fun e w' => e = .returned (.int .u64 (dec ((bs.take (i + 1 + (bs[i]).toNat)).drop (i + 1)) : Int)) ∧ IsRr S w' g bs (i + 1 + (bs[i]).toNat) 0 ∧ w.grownBy w' (some g) := by
  have KH := K.mk h
  obtain ⟨A, c, c0, c1, c2, f1, f2, hc, hA⟩ := h.cells
  obtain ⟨ad, rfl, hn⟩ := hA.byte i hi
  have KA := K.mk hA
  have b8 : decide (8 < ((bs[i]).toNat : Int)) = false := by rw [decide_eq_false_iff_not]; omega
  have hn1 : w.cell? ⟨(ad.add i).block, (ad.add i).off + 1, none⟩ = some (.int .u8 ((bs[i + 1]'h1).toNat : Int)) := by
    obtain ⟨_, e1, hm⟩ := hA.byte (i + 1) h1
    cases e1
    rw [← hm, ← Addr.add_add, add_succ]
  have b0 : decide (0 < ((bs[i]).toNat : Int)) = true := by rw [decide_eq_true_eq]; omega
  have bl : decide (1 < ((bs.length - i : Nat) : Int)) = true := by rw [decide_eq_true_eq]; omega
  have bz : (((bs[i + 1]'h1).toNat : Int) == 0) = false := by
    rw [beq_eq_false_iff_ne]; intro e; exact hz (UInt8.toNat_inj.1 (by simpa using e))
  clear hz
  have hn0 : w.cell? (ad.add i) = some (.int .u8 ((bs[i]).toNat : Int)) := hn
  have Kbn : K (∃ bn : Nat, bn = (bs[i]).toNat) := ⟨_, rfl⟩
  clear h hA hn
  go_enter Try.func21, Try.ntmps21
  go_wp2
  go_quiet (fail)
  go_wp2
  go_loop [4, 5] (fun v k => ∃ m : Nat, 1 ≤ m ∧ m ≤ (bs[i]).toNat + 1 ∧ k = .int .i64 (m : Int) ∧ v = .int .u64 (dec ((bs.take (i + m)).drop (i + 1)) : Int)) (fun _ k => (bs[i]).toNat + 1 - (intOf k).toNat)
  case atStart => exact ⟨1, by omega, by omega, rfl, by simp [dec, List.drop_eq_nil_of_le]⟩
  case round =>
    obtain ⟨m, hm1, hm2, rfl, rfl⟩ := hrel
    by_cases hlt : m ≤ (bs[i]).toNat
    · have hcm : w.cell? ((ad.add i).add m) = some (.int .u8 ((bs[i + m]'(by omega)).toNat : Int)) := by
        obtain ⟨_, e1, hm⟩ := KA.out.byte (i + m) (by omega)
        cases e1
        rw [← hm, ← Addr.add_add]
      have KS := K.mk (seg_snoc bs i m (by omega) hm1)
      have KL : K (dec ((bs.take (i + m)).drop (i + 1)) < 256 ^ 7) := ⟨by
        have h1 := dec_lt ((bs.take (i + m)).drop (i + 1))
        have h2 : ((bs.take (i + m)).drop (i + 1)).length ≤ 7 := by simp; omega
        exact Nat.lt_of_lt_of_le h1 (Nat.pow_le_pow_right (by omega) h2)⟩
      go_wp2
      go_round
      case rel =>
        refine ⟨m + 1, by omega, by omega, by go_num, ?_⟩
        first | (exfalso; omega) | rw [← Nat.add_assoc, KS.out, dec_snoc, ← or_step _ _ KL.out]
      case measure => simp [intOf]; omega
    · have hm : m = (bs[i]).toNat + 1 := by omega
      have Km := K.mk hm
      clear hm
      go_wp2
      have s1 := IntWalk.i64_in ((i : Int) + 1) (by omega)
      have s2 := IntWalk.i64_in ((i : Int) + 1 + (bs[i]).toNat) (by omega)
      go_region
      go_wp2
      go_ret
      have hb2 : Below w.heap.size w (w.drewN nq).drew := ((Dr.below ⟨nq, rfl⟩ _ : Below w.heap.size w (w.drewN nq))).drew
      have ei : i + m = i + 1 + (bs[i]).toNat := by have := Km.out; omega
      refine ⟨by rw [← ei]; rfl, ?_, ?_⟩
      · have := (KH.out.keep hb2).set1 (i + 1 + (bs[i]).toNat)
        simpa [Int.natCast_add] using this
      · exact World.grownBy.trans (gbel hb2 _) (gset _ _ _ _)

set_option maxHeartbeats 4000000 in
theorem RrNum_ok2 (g : Nat) (bs : List UInt8) (i : Nat) (w : World) (h : IsRr S w g bs i 0) (hi : i < bs.length) (hb : bs.length ≤ 140737488351232) (h8 : (bs[i]).toNat ≤ 8) (hs : i + 1 + (bs[i]).toNat ≤ bs.length) (h0 : (bs[i]).toNat = 0) (h1 : i + 1 < bs.length) :
    Calls Try.prog 21 #[.pointer (some ⟨g, 0, none⟩)] w fun e w' => e = .returned (.int .u64 (dec ((bs.take (i + 1 + (bs[i]).toNat)).drop (i + 1)) : Int)) ∧ IsRr S w' g bs (i + 1 + (bs[i]).toNat) 0 ∧ w.grownBy w' (some g) := by
  have KH := K.mk h
  obtain ⟨A, c, c0, c1, c2, f1, f2, hc, hA⟩ := h.cells
  obtain ⟨ad, rfl, hn⟩ := hA.byte i hi
  have KA := K.mk hA
  have b8 : decide (8 < ((bs[i]).toNat : Int)) = false := by rw [decide_eq_false_iff_not]; omega
  have b0 : ¬ 0 < (bs[i]).toNat := by omega
  have bl : decide (1 < ((bs.length - i : Nat) : Int)) = true := by rw [decide_eq_true_eq]; omega
  have K0 := K.mk h0
  clear h0
  have hn0 : w.cell? (ad.add i) = some (.int .u8 ((bs[i]).toNat : Int)) := hn
  have Kbn : K (∃ bn : Nat, bn = (bs[i]).toNat) := ⟨_, rfl⟩
  clear h hA hn
  go_enter Try.func21, Try.ntmps21
  go_wp2
  go_quiet (fail)
  go_wp2
  go_loop [4, 5] (fun v k => ∃ m : Nat, 1 ≤ m ∧ m ≤ (bs[i]).toNat + 1 ∧ k = .int .i64 (m : Int) ∧ v = .int .u64 (dec ((bs.take (i + m)).drop (i + 1)) : Int)) (fun _ k => (bs[i]).toNat + 1 - (intOf k).toNat)
  case atStart => exact ⟨1, by omega, by omega, rfl, by simp [dec, List.drop_eq_nil_of_le]⟩
  case round =>
    obtain ⟨m, hm1, hm2, rfl, rfl⟩ := hrel
    by_cases hlt : m ≤ (bs[i]).toNat
    · have hcm : w.cell? ((ad.add i).add m) = some (.int .u8 ((bs[i + m]'(by omega)).toNat : Int)) := by
        obtain ⟨_, e1, hm⟩ := KA.out.byte (i + m) (by omega)
        cases e1
        rw [← hm, ← Addr.add_add]
      have KS := K.mk (seg_snoc bs i m (by omega) hm1)
      have KL : K (dec ((bs.take (i + m)).drop (i + 1)) < 256 ^ 7) := ⟨by
        have h1 := dec_lt ((bs.take (i + m)).drop (i + 1))
        have h2 : ((bs.take (i + m)).drop (i + 1)).length ≤ 7 := by simp; omega
        exact Nat.lt_of_lt_of_le h1 (Nat.pow_le_pow_right (by omega) h2)⟩
      go_wp2
      go_round
      case rel =>
        refine ⟨m + 1, by omega, by omega, by go_num, ?_⟩
        first | (exfalso; omega) | rw [← Nat.add_assoc, KS.out, dec_snoc, ← or_step _ _ KL.out]
      case measure => simp [intOf]; omega
    · have hm : m = (bs[i]).toNat + 1 := by omega
      have Km := K.mk hm
      clear hm
      go_wp2
      have s1 := IntWalk.i64_in ((i : Int) + 1) (by omega)
      have s2 := IntWalk.i64_in ((i : Int) + 1 + (bs[i]).toNat) (by omega)
      go_region
      go_wp2
      go_ret
      have hb2 : Below w.heap.size w (w.drewN nq).drew := ((Dr.below ⟨nq, rfl⟩ _ : Below w.heap.size w (w.drewN nq))).drew
      have ei : i + m = i + 1 + (bs[i]).toNat := by have := Km.out; omega
      refine ⟨by rw [← ei]; rfl, ?_, ?_⟩
      · have := (KH.out.keep hb2).set1 (i + 1 + (bs[i]).toNat)
        simpa [Int.natCast_add] using this
      · exact World.grownBy.trans (gbel hb2 _) (gset _ _ _ _)

set_option maxHeartbeats 4000000 in
theorem RrNum_ok3 (g : Nat) (bs : List UInt8) (i : Nat) (w : World) (h : IsRr S w g bs i 0) (hi : i < bs.length) (hb : bs.length ≤ 140737488351232) (h8 : (bs[i]).toNat ≤ 8) (hs : i + 1 + (bs[i]).toNat ≤ bs.length) (h1 : bs.length ≤ i + 1) :
    Calls Try.prog 21 #[.pointer (some ⟨g, 0, none⟩)] w fun e w' => e = .returned (.int .u64 (dec ((bs.take (i + 1 + (bs[i]).toNat)).drop (i + 1)) : Int)) ∧ IsRr S w' g bs (i + 1 + (bs[i]).toNat) 0 ∧ w.grownBy w' (some g) := by
  have KH := K.mk h
  obtain ⟨A, c, c0, c1, c2, f1, f2, hc, hA⟩ := h.cells
  obtain ⟨ad, rfl, hn⟩ := hA.byte i hi
  have KA := K.mk hA
  have b8 : decide (8 < ((bs[i]).toNat : Int)) = false := by rw [decide_eq_false_iff_not]; omega
  have bl : decide (1 < ((bs.length - i : Nat) : Int)) = false := by rw [decide_eq_false_iff_not]; omega
  have hn0 : w.cell? (ad.add i) = some (.int .u8 ((bs[i]).toNat : Int)) := hn
  have Kbn : K (∃ bn : Nat, bn = (bs[i]).toNat) := ⟨_, rfl⟩
  clear h hA hn
  go_enter Try.func21, Try.ntmps21
  go_wp2
  go_quiet (fail)
  go_wp2
  go_loop [4, 5] (fun v k => ∃ m : Nat, 1 ≤ m ∧ m ≤ (bs[i]).toNat + 1 ∧ k = .int .i64 (m : Int) ∧ v = .int .u64 (dec ((bs.take (i + m)).drop (i + 1)) : Int)) (fun _ k => (bs[i]).toNat + 1 - (intOf k).toNat)
  case atStart => exact ⟨1, by omega, by omega, rfl, by simp [dec, List.drop_eq_nil_of_le]⟩
  case round =>
    obtain ⟨m, hm1, hm2, rfl, rfl⟩ := hrel
    by_cases hlt : m ≤ (bs[i]).toNat
    · have hcm : w.cell? ((ad.add i).add m) = some (.int .u8 ((bs[i + m]'(by omega)).toNat : Int)) := by
        obtain ⟨_, e1, hm⟩ := KA.out.byte (i + m) (by omega)
        cases e1
        rw [← hm, ← Addr.add_add]
      have KS := K.mk (seg_snoc bs i m (by omega) hm1)
      have KL : K (dec ((bs.take (i + m)).drop (i + 1)) < 256 ^ 7) := ⟨by
        have h1 := dec_lt ((bs.take (i + m)).drop (i + 1))
        have h2 : ((bs.take (i + m)).drop (i + 1)).length ≤ 7 := by simp; omega
        exact Nat.lt_of_lt_of_le h1 (Nat.pow_le_pow_right (by omega) h2)⟩
      go_wp2
      go_round
      case rel =>
        refine ⟨m + 1, by omega, by omega, by go_num, ?_⟩
        first | (exfalso; omega) | rw [← Nat.add_assoc, KS.out, dec_snoc, ← or_step _ _ KL.out]
      case measure => simp [intOf]; omega
    · have hm : m = (bs[i]).toNat + 1 := by omega
      have Km := K.mk hm
      clear hm
      go_wp2
      have s1 := IntWalk.i64_in ((i : Int) + 1) (by omega)
      have s2 := IntWalk.i64_in ((i : Int) + 1 + (bs[i]).toNat) (by omega)
      go_region
      go_wp2
      go_ret
      have hb2 : Below w.heap.size w (w.drewN nq).drew := ((Dr.below ⟨nq, rfl⟩ _ : Below w.heap.size w (w.drewN nq))).drew
      have ei : i + m = i + 1 + (bs[i]).toNat := by have := Km.out; omega
      refine ⟨by rw [← ei]; rfl, ?_, ?_⟩
      · have := (KH.out.keep hb2).set1 (i + 1 + (bs[i]).toNat)
        simpa [Int.natCast_add] using this
      · exact World.grownBy.trans (gbel hb2 _) (gset _ _ _ _)

theorem RrNum_calls (g : Nat) (bs : List UInt8) (i er : Nat) (w : World) (h : IsRr S w g bs i er) (hi : i ≤ bs.length) (hb : bs.length ≤ 140737488351232) :
    Calls Try.prog 21 #[.pointer (some ⟨g, 0, none⟩)] w fun e w' => e = .returned (.int .u64 ((numP bs i er).1 : Int)) ∧ IsRr S w' g bs (numP bs i er).2.1 (numP bs i er).2.2 ∧ w.grownBy w' (some g) := by
  unfold numP takeP
  by_cases he : er = 0
  · subst he
    rw [if_neg (by simp)]
    by_cases h1 : i < bs.length
    · have hget : bs[i]? = some bs[i] := List.getElem?_eq_getElem h1
      by_cases h8 : 8 < (bs[i]).toNat
      · have e : numE bs i = (0, 9) := by rw [numE, hget]; simp [h8]
        rw [e]
        exact RrNum_big g bs i w h h1 hb h8
      · by_cases h0 : 0 < (bs[i]).toNat
        · by_cases h2 : i + 1 < bs.length
          · have hget2 : bs[i + 1]? = some bs[i + 1] := List.getElem?_eq_getElem h2
            by_cases hz : bs[i + 1] = 0
            · have e : numE bs i = (0, 9) := by rw [numE, hget]; simp [h8, h0, hget2, hz]
              rw [e]
              exact RrNum_zero g bs i w h h1 hb (by omega) h0 h2 hz
            · by_cases hs : bs.length < i + 1 + (bs[i]).toNat
              · have e : numE bs i = (0, 8) := by rw [numE, hget]; simp [h8, h0, hget2, hz, hs]
                rw [e]
                exact RrNum_sh1 g bs i w h h1 hb (by omega) h0 h2 hz hs
              · have e : numE bs i = (i + 1 + (bs[i]).toNat, 0) := by rw [numE, hget]; simp [h8, h0, hget2, hz, hs]
                rw [e, if_neg (by simp)]
                have := RrNum_ok1 g bs i w h h1 hb (by omega) (by omega) h0 h2 hz
                simpa [List.tail_drop] using this
          · have hget2 : bs[i + 1]? = none := List.getElem?_eq_none (by omega)
            have e : numE bs i = (0, 8) := by rw [numE, hget]; simp [h8, h0, hget2]; omega
            rw [e]
            exact RrNum_sh2 g bs i w h h1 hb (by omega) h0 (by omega)
        · have e : numE bs i = (i + 1 + (bs[i]).toNat, 0) := by rw [numE, hget]; simp [h8, h0]; omega
          rw [e, if_neg (by simp)]
          by_cases h2 : i + 1 < bs.length
          · have := RrNum_ok2 g bs i w h h1 hb (by omega) (by omega) (by omega) h2
            simpa [List.tail_drop] using this
          · have := RrNum_ok3 g bs i w h h1 hb (by omega) (by omega) (by omega)
            simpa [List.tail_drop] using this
    · have e : numE bs i = (0, 8) := by rw [numE, List.getElem?_eq_none (by omega)]
      rw [e]
      exact RrNum_short0 g bs i w h (by omega)
  · rw [if_pos he]
    refine (RrNum_err g bs i er w h he).mono ?_
    rintro e w1 ⟨rfl, rfl⟩
    exact ⟨rfl, h, World.grownBy.refl _ _⟩
end Go.Proofs.Ytmoffojjdbmoiaa.code
