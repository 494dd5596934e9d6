/- Walks over chapter 8: the reader of a stamp's text. -/
import Derived.Test.YtdeegjhnomdepaaSt2
import Derived.Test.YtdeegjhnomdepaaBase2
set_option linter.unusedVariables false
set_option linter.unusedSimpArgs false
namespace Go.Proofs.Ytdeegjhnomdepaa.st
open Go.RowKit Go.Proofs.Ytdeegjhnomdepaa.b

/-- The reader in block g has this text still to read. -/
def Rds (w : World) (g : Nat) (xs : List UInt8) (bad : Bool) : Prop := w.heap[g]? = some (.cells #[str xs, .bool bad] 38 (0, 0))
theorem Rds.c {w : World} {g : Nat} {xs : List UInt8} {bad : Bool} (h : Rds w g xs bad) : w.cell? ⟨g, 0, none⟩ = some (str xs) ∧ w.cell? ⟨g, 1, none⟩ = some (.bool bad) ∧ w.frozen? ⟨g, 0, none⟩ = false ∧ w.frozen? ⟨g, 1, none⟩ = false := by
  simp only [Rds] at h
  simp [World.cell?, World.frozen?, h]

theorem take_calls (g : Nat) (xs : List UInt8) (bad : Bool) (n : Nat) (w : World) (h : Rds w g xs bad) (hn : n ≤ xs.length) :
    Calls Try.prog 15 #[.pointer (some ⟨g, 0, none⟩), .int .i64 (n : Int)] w fun e w' => e = .returned (str (xs.take n)) ∧ w' = w.setCell ⟨g, 0, none⟩ (str (xs.drop n)) := by
  obtain ⟨c0, c1, c2, c3⟩ := h.c
  clear h
  unfold str at c0 ⊢
  go_enter Try.func15, Try.ntmps15
  go_wp2
  go_ret
  exact ⟨by simp [str, ba_ext0], by simp only [str, ba_extl]⟩

def digs : List UInt8 → Nat → Option Nat
  | [], v => some v
  | c :: r, v => if 48 ≤ c.toNat ∧ c.toNat ≤ 57 then digs r (10 * v + (c.toNat - 48)) else none
def numV (ys : List UInt8) : Nat := (digs ys 0).getD 0
theorem Rds.take {w : World} {g : Nat} {xs : List UInt8} {bad : Bool} (h : Rds w g xs bad) (ys : List UInt8) : Rds (w.setCell ⟨g, 0, none⟩ (str ys)) g ys bad := by
  simp only [Rds] at h ⊢
  simp [World.setCell, Array.getElem?_modify, h]
theorem Rds.bad {w : World} {g : Nat} {xs : List UInt8} {bad : Bool} (h : Rds w g xs bad) (b : Bool) : Rds (w.setCell ⟨g, 1, none⟩ (.bool b)) g xs b := by
  simp only [Rds] at h ⊢
  simp [World.setCell, Array.getElem?_modify, h]
theorem Rds.lt {w : World} {g : Nat} {xs : List UInt8} {bad : Bool} (h : Rds w g xs bad) : g < w.heap.size := (Array.getElem?_eq_some_iff.1 h).1
theorem Rds.keep {w w' : World} {g : Nat} {xs : List UInt8} {bad : Bool} (h : Rds w g xs bad) (hb : Below w.heap.size w w') : Rds w' g xs bad := (hb.block g h.lt).trans h

set_option maxHeartbeats 2000000 in
theorem number_calls (g : Nat) (xs : List UInt8) (bad : Bool) (n : Nat) (w : World) (h : Rds w g xs bad) (hn : n ≤ xs.length) (hn2 : n ≤ 4) :
    Calls Try.prog 16 #[.pointer (some ⟨g, 0, none⟩), .int .i64 (n : Int)] w fun e w' => e = .returned (.int .i64 (numV (xs.take n) : Int)) ∧ Rds w' g (xs.drop n) (bad || (digs (xs.take n) 0).isNone) ∧ w.grownBy w' (some g) := by
  have KH := K.mk h
  go_enter Try.func16, Try.ntmps16
  go_wp2_with fail
  refine (take_calls g xs bad n w h hn).mono ?_
  rintro e w1 ⟨rfl, rfl⟩
  have KH1 := K.mk (h.take (xs.drop n))
  have KG1 := K.mk (gset w g 0 (str (xs.drop n)))
  clear h
  generalize w.setCell ⟨g, 0, none⟩ (str (xs.drop n)) = w1 at KH1 KG1
  generalize hys : xs.take n = ys
  have hl : ys.length ≤ 4 := by rw [← hys]; simp; omega
  unfold str
  go_wp2
  go_loopw [5] (fun v wc => ∃ pos m : Nat, wc = w1.iter ⟨ys.toArray⟩ pos ∧ v = .int .i64 (m : Int) ∧ pos ≤ ys.length ∧ K (digs (ys.drop pos) m = digs ys 0) ∧ K (m < 10 ^ pos)) (fun _ wc => ys.length - wc.iterPos w1.heap.size)
  case atStart => exact ⟨0, 0, rfl, rfl, by omega, ⟨rfl⟩, ⟨by simp⟩⟩
  case round =>
    obtain ⟨pos, m, rfl, rfl, hp0, KD, KM⟩ := hrel
    by_cases hp : pos < ys.length
    · have hps : pos < (⟨ys.toArray⟩ : ByteArray).size := by rw [ba_size]; exact hp
      have hnx : ∀ ty, (Instr.next (.pointer (some ⟨w1.heap.size, 0, none⟩)) true ty).run Try.prog (w1.iter ⟨ys.toArray⟩ pos) = _ := fun ty => run_next_any w1 ⟨ys.toArray⟩ pos ty (by rw [ba_size]; exact hp)
      have hR : Rds (w1.iter ⟨ys.toArray⟩ (pos + (Utf8.decode ⟨ys.toArray⟩ pos).2)) g (xs.drop n) bad := KH1.out.keep ((Below.refl _ w1).alloc (Nat.le_refl _) _)
      obtain ⟨c0, c1, c2, c3⟩ := hR.c
      have KR := K.mk hR
      clear hR
      have KD1 : K (digs (ys.drop pos) m = if 48 ≤ ys[pos].toNat ∧ ys[pos].toNat ≤ 57 then digs (ys.drop (pos + 1)) (10 * m + (ys[pos].toNat - 48)) else none) := ⟨by rw [List.drop_eq_getElem_cons hp, digs]⟩
      by_cases hd : 48 ≤ ys[pos].toNat ∧ ys[pos].toNat ≤ 57
      · have hdc : Utf8.decode ⟨ys.toArray⟩ pos = (ys[pos].toNat, 1) := decode_ascii _ pos hps (by rw [ba_get ys pos hps hp]; omega)
        rw [hdc] at hnx KR c0 c1 c2 c3
        replace KD1 := K.mk (KD1.out.trans (if_pos hd))
        clear hdc
        revert hnx KD1 hd
        generalize ys[pos].toNat = c
        intro hnx hd KD1
        have d1 : ¬ ((c : Int) < 48) := by omega
        have d2 : ¬ (57 < (c : Int)) := by omega
        have d3 : c ≤ 57 := by omega
        have KM' : m ≤ 999 := by
          have h1 := KM.out
          have : 10 ^ pos ≤ 10 ^ 3 := Nat.pow_le_pow_right (by omega) (by omega)
          omega
        go_wp2
        go_roundw
        case rel =>
          refine ⟨pos + 1, 10 * m + (c - 48), rfl, ?_, by omega, ⟨by rw [← KD.out, KD1.out]⟩, ⟨by have := KM.out; rw [Nat.pow_succ]; omega⟩⟩
          go_num
        case measure => simp; omega
      · have hdc : Utf8.decode ⟨ys.toArray⟩ pos = ((Utf8.decode ⟨ys.toArray⟩ pos).1, (Utf8.decode ⟨ys.toArray⟩ pos).2) := rfl
        have hr : ((Utf8.decode ⟨ys.toArray⟩ pos).1 : Int) < 48 ∨ 57 < ((Utf8.decode ⟨ys.toArray⟩ pos).1 : Int) := by
          by_cases ha : ys[pos].toNat < 128
          · rw [decode_ascii _ pos hps (by rw [ba_get ys pos hps hp]; exact ha)]
            rw [ba_get ys pos hps hp]
            simp only
            omega
          · have := (decode_high ⟨ys.toArray⟩ pos hps (by rw [ba_get ys pos hps hp]; omega)).1
            omega
        replace KD1 := K.mk (KD1.out.trans (if_neg hd))
        clear hd hdc
        revert hnx KR c0 c1 c2 c3 hr
        generalize (Utf8.decode ⟨ys.toArray⟩ pos).1 = r
        generalize (Utf8.decode ⟨ys.toArray⟩ pos).2 = wd
        intro hnx c0 c1 c2 c3 KR hr
        go_wp2
        all_goals
          go_ret
          have hN : digs ys 0 = none := by rw [← KD.out, KD1.out]
          exact ⟨by simp [numV, hys, hN], by simpa [hys, hN] using KR.out.bad true, World.grownBy.trans KG1.out (World.grownBy.trans (gbel ((Below.refl _ w1).alloc (Nat.le_refl _) _) _) (gset _ _ _ _))⟩
    · have hnx : ∀ ty, (Instr.next (.pointer (some ⟨w1.heap.size, 0, none⟩)) true ty).run Try.prog (w1.iter ⟨ys.toArray⟩ pos) = _ := fun ty => run_next_end w1 ⟨ys.toArray⟩ pos ty (by rw [ba_size]; exact hp)
      go_wp2
      go_ret
      have e : pos = ys.length := by omega
      have hN : digs ys 0 = some m := by rw [← KD.out, e]; simp [digs]
      have hK : Rds (w1.iter ⟨ys.toArray⟩ pos) g (xs.drop n) bad := KH1.out.keep ((Below.refl _ w1).alloc (Nat.le_refl _) _)
      exact ⟨by simp [numV, hys, hN], by simpa [hys, hN] using hK, World.grownBy.trans KG1.out (gbel ((Below.refl _ w1).alloc (Nat.le_refl _) _) _)⟩

theorem sign_calls (g : Nat) (c : UInt8) (x : UInt8) (xs : List UInt8) (bad : Bool) (w : World) (h : Rds w g (x :: xs) bad) :
    Calls Try.prog 17 #[.pointer (some ⟨g, 0, none⟩), .int .u8 (c.toNat : Int)] w fun e w' => e = .returned (.tuple #[]) ∧ Rds w' g xs (x != c || bad) ∧ w.grownBy w' (some g) := by
  go_enter Try.func17, Try.ntmps17
  go_wp2_with fail
  refine (take_calls g (x :: xs) bad 1 w h (by simp)).mono ?_
  rintro e w1 ⟨rfl, rfl⟩
  have KH1 := K.mk (h.take xs)
  have KG1 := K.mk (gset w g 0 (str xs))
  obtain ⟨c0, c1, c2, c3⟩ := KH1.out.c
  clear h
  simp only [List.drop_succ_cons, List.drop_zero, List.take_succ_cons, List.take_zero]
  generalize w.setCell ⟨g, 0, none⟩ (str xs) = w1 at KH1 KG1 c0 c1 c2 c3
  unfold str
  go_wp2
  · rename_i hx
    have hx' : x = c := UInt8.toNat_inj.1 (Int.ofNat_inj.1 hx)
    go_end0
    exact ⟨rfl, by rw [hx']; simpa using KH1.out.bad bad, World.grownBy.trans KG1.out (gset _ _ _ _)⟩
  · rename_i hx
    have hx' : x ≠ c := fun e => hx (by rw [e]; rfl)
    go_end0
    exact ⟨rfl, by rw [(by simpa using hx' : (x != c) = true)]; exact KH1.out.bad true, World.grownBy.trans KG1.out (gset _ _ _ _)⟩

def mons : List (List UInt8) := ["Jan", "Feb", "Mar", "Apr", "May", "Jun", "Jul", "Aug", "Sep", "Oct", "Nov", "Dec"].map fun s => s.toUTF8.data.toList
/-- The place of a name among some, 0: none. -/
def idx (l : List (List UInt8)) (s : List UInt8) : Nat := match l with | [] => 0 | x :: r => if x = s then 1 else match idx r s with | 0 => 0 | n + 1 => n + 2
theorem months_calls (w : World) : Calls Try.prog 28 #[] w fun e w' => e = .returned (.agg (mons.map str).toArray) ∧ Below w.heap.size w w' := by
  go_enter Try.func28, Try.ntmps28
  go_wp2
  try simp only [Exit.inBlock, Exit.then]
  refine bodyPost_ret (results_cell_row rfl _ _ w.heap.size _ _ _ _ rfl (heap_alloc_new _ _) Try.underlying48 rfl rfl) rfl ?_
  exact ⟨rfl, (Below.refl _ w).alloc (Nat.le_refl _) _⟩

theorem mons_len : mons.length = 12 := rfl
theorem idx_at (l : List (List UInt8)) (s : List UInt8) : ∀ i, i < l.length → (∀ k, k < i → l.getD k [] ≠ s) → l.getD i [] = s → idx l s = i + 1 := by
  induction l with
  | nil => intro i h; simp at h
  | cons x r ih =>
    intro i hi hk he
    cases i with
    | zero => simp at he; simp [idx, he]
    | succ i =>
      have h0 := hk 0 (by omega)
      simp at h0
      have := ih i (by simpa using hi) (fun k h => by simpa using hk (k + 1) (by omega)) (by simpa using he)
      simp [idx, h0, this]
theorem idx_none (l : List (List UInt8)) (s : List UInt8) : (∀ k, k < l.length → l.getD k [] ≠ s) → idx l s = 0 := by
  induction l with
  | nil => intro _; rfl
  | cons x r ih =>
    intro hk
    have h0 := hk 0 (by simp)
    simp at h0
    have := ih fun k h => by simpa using hk (k + 1) (by simpa using h)
    simp [idx, h0, this]
theorem mons_at (i : Nat) (h : i < 12) : (mons.map fun xs => Value.string ⟨xs.toArray⟩).toArray[i]? = some (.string ⟨(mons.getD i []).toArray⟩) := by
  have hl : mons.length = 12 := rfl
  simp [List.getElem?_eq_getElem (show i < mons.length by omega)]
theorem month_calls (g : Nat) (xs : List UInt8) (bad : Bool) (w : World) (h : Rds w g xs bad) (hn : 3 ≤ xs.length) :
    Calls Try.prog 18 #[.pointer (some ⟨g, 0, none⟩)] w fun e w' => e = .returned (.int .i64 (idx mons (xs.take 3) : Int)) ∧ Rds w' g (xs.drop 3) (bad || idx mons (xs.take 3) == 0) ∧ w.grownBy w' (some g) := by
  go_enter Try.func18, Try.ntmps18
  go_wp2_with fail
  refine (take_calls g xs bad 3 w h hn).mono ?_
  rintro e w1 ⟨rfl, rfl⟩
  have KH1 := K.mk (h.take (xs.drop 3))
  have KG1 := K.mk (gset w g 0 (str (xs.drop 3)))
  obtain ⟨c0, c1, c2, c3⟩ := KH1.out.c
  clear h
  generalize w.setCell ⟨g, 0, none⟩ (str (xs.drop 3)) = w1 at KH1 KG1 c0 c1 c2 c3
  have h3 : (xs.take 3).length = 3 := by simp; omega
  generalize hs : xs.take 3 = s at h3
  go_wp2_with fail
  refine (months_calls _).mono ?_
  rintro e w2 ⟨rfl, hB⟩
  have KH2 := K.mk (KH1.out.keep hB)
  have KG2 := K.mk (World.grownBy.trans KG1.out (gbel hB _))
  clear hB c0 c1 c2 c3
  obtain ⟨c0, c1, c2, c3⟩ := KH2.out.c
  unfold str
  have hagg : ∀ i : Nat, i < 12 → (mons.map fun xs => Value.string ⟨xs.toArray⟩).toArray[i]? = some (.string ⟨(mons.getD i []).toArray⟩) := mons_at
  generalize (mons.map fun xs => Value.string ⟨xs.toArray⟩).toArray = agg at hagg
  go_wp2
  go_loop [9] (fun v => ∃ i : Nat, i ≤ 12 ∧ v = .int .i64 (i : Int) ∧ K (∀ k, k < i → mons.getD k [] ≠ s)) (fun v => 12 - (intOf v).toNat)
  case atStart => exact ⟨0, by omega, rfl, ⟨by omega⟩⟩
  case round =>
    obtain ⟨i, hi, rfl, KI⟩ := hrel
    by_cases h1 : i < 12
    · have ha : ∀ W, (Instr.index 48 (.agg agg) (.int .i64 (i : Int))).run Try.prog W = _ := fun W => run_index_plain W 48 9 12 agg i _ Try.underlying48 (by kernel_rfl) (by kernel_rfl) h1 (hagg i h1)
      clear hagg
      generalize hm : mons.getD i [] = m at ha
      go_wp2
      · rename_i hms
        have hms' : mons.getD i [] = s := by rw [hm]; simp_all
        have hI := idx_at mons s i (by rw [mons_len]; omega) KI.out hms'
        go_ret
        exact ⟨by simp [hI], by simpa [hI] using KH2.out, KG2.out⟩
      · rename_i hms
        have hms' : mons.getD i [] ≠ s := by rw [hm]; simp_all
        go_round
        case rel =>
          refine ⟨i + 1, by omega, by go_num, ⟨fun k hk => ?_⟩⟩
          rcases Nat.lt_succ_iff_lt_or_eq.1 hk with h | rfl
          · exact KI.out k h
          · exact hms'
        case measure => simp [intOf]; omega
    · have hi12 : i = 12 := by omega
      subst hi12
      have hI := idx_none mons s (by rw [mons_len]; exact KI.out)
      go_wp2
      go_ret
      exact ⟨by simp [hs, hI], by simpa [hs, hI] using KH2.out.bad true, World.grownBy.trans KG2.out (gset _ _ _ _)⟩

end Go.Proofs.Ytdeegjhnomdepaa.st

