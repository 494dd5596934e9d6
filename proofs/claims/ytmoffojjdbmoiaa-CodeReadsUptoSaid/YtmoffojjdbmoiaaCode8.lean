/- Walks over chapter 1: the law CodeReads. -/
import Derived.Test.YtmoffojjdbmoiaaCode7
import Derived.Test.YtmoffojjdbmoiaaRRead2
set_option linter.unusedVariables false
set_option linter.unusedSimpArgs false
namespace Go.Proofs.Ytmoffojjdbmoiaa.code
open Go.RowKit Go.Proofs.Ytmoffojjdbmoiaa.b Go.Proofs.Ytmoffojjdbmoiaa.help

theorem textP_len (bs : List UInt8) (i er : Nat) : (textP bs i er).1.length ≤ bs.length := by
  unfold textP
  refine Nat.le_trans (un_len _ _ (Nat.le_refl _)) ?_
  unfold takeP
  split
  · simp
  · split
    · simp
    · simp; omega
theorem own_cut {w : World} {base n g cap : Nat} {e : TypeId} {xs : List Value} (h : w.ownsRow base e 1 (.slice (some ⟨g, 0, none⟩) n cap) n xs) (m : Nat) (hm : m ≤ n) : w.ownsRow base e 1 (.slice (some ⟨g, 0, none⟩) m cap) m (xs.take m) := by
  have hl := h.1
  refine ⟨by simp; omega, ?_⟩
  rcases h.2 with ⟨h', _⟩ | ⟨g', cap', cur, h', hb, hg, hnc, hcm, hcs, htake⟩
  · simp at h'
  · simp only [Value.slice.injEq, Option.some.injEq, Addr.mk.injEq, and_true, true_and] at h'
    obtain ⟨rfl, rfl⟩ := h'
    refine .inr ⟨g, cap, cur, rfl, hb, hg, by omega, hcm, hcs, ?_⟩
    rw [← htake, List.take_take, Nat.min_eq_left (by omega), Nat.mul_one]
theorem Spoil_any (v : Value) (n : Nat) (xs : List UInt8) (w : World) (base : Nat) (hO : w.ownsRow base 5 1 v n (bvs xs)) (hb : n ≤ 140737488351232) :
    Calls Try.prog 17 #[v] w fun e w' => e = .returned (.tuple #[]) ∧ w.grownBy w' v.ownBlock := by
  rcases hO.2 with ⟨rfl, rfl⟩ | ⟨g, cap, cur, rfl, _⟩
  · clear hO
    go_enter Try.func17, Try.ntmps17
    go_wp2
    refine wp_loop_rounds 1 ?_
    rw [rounds_succ]
    go_wp2
    go_end0
    exact ⟨rfl, World.grownBy.refl _ _⟩
  · exact Spoil_calls g n cap xs w base hO hb

/-- Both readers, the program's and the reference's, at one place with one fault. -/
structure Both (w0 : World) (lo : Nat) (w : World) (g gr : Nat) (bs : List UInt8) (i er : Nat) : Prop where
  rd : IsRd (fun k => lo ≤ k ∧ k < g) w g bs i er
  rr : IsRr (fun k => k < w0.heap.size) w gr bs i er
  le : i ≤ bs.length
  bel : Below w0.heap.size w0 w
  o1 : w0.heap.size ≤ lo
  o2 : lo ≤ g
  o3 : g < gr
  o4 : gr < w.heap.size
section
variable {w0 w w' : World} {lo g gr q : Nat} {bs : List UInt8} {i er : Nat}
theorem Both.keep (h : Both w0 lo w g gr bs i er) (hb : Below w.heap.size w w') : Both w0 lo w' g gr bs i er :=
  ⟨h.rd.keep hb, h.rr.keep hb, h.le, thn h.bel hb, h.o1, h.o2, h.o3, Nat.lt_of_lt_of_le h.o4 hb.size⟩
theorem Both.far (h : Both w0 lo w g gr bs i er) (hg : w.grownBy w' (some q)) (hq : gr < q ∨ w0.heap.size ≤ q ∧ q < lo) : Both w0 lo w' g gr bs i er := by
  have o1 := h.o1
  have o2 := h.o2
  have o3 := h.o3
  exact ⟨h.rd.grown hg (by omega) (fun k hk => by omega), h.rr.grown hg (by omega) (fun k hk => by omega), h.le, bgrow h.bel hg (by omega), o1, o2, o3, Nat.lt_of_lt_of_le h.o4 hg.size⟩
theorem Both.far? {q : Option Nat} (h : Both w0 lo w g gr bs i er) (hg : w.grownBy w' q) (hq : ∀ k, q = some k → gr < k) : Both w0 lo w' g gr bs i er := by
  cases q with
  | some k => exact h.far hg (.inl (hq k rfl))
  | none => exact h.keep ⟨hg.os, hg.tape, hg.output, hg.size, fun k hk => hg.block k hk (by simp)⟩
end
theorem IsRd.mono {S S' : Nat → Prop} {w : World} {g : Nat} {bs : List UInt8} {a e : Nat} (h : IsRd S w g bs a e) (hs : ∀ k, S k → S' k) : IsRd S' w g bs a e := by
  obtain ⟨A, c, hh, hA, hc, hne⟩ := h
  exact ⟨A, c, hh, hA, hc, fun ad e => ⟨(hne ad e).1, hs _ (hne ad e).2⟩⟩

set_option maxHeartbeats 4000000 in
set_option maxRecDepth 100000 in
theorem CodeReads_calls (A B : Option Addr) (n c m d : Nat) (xs : List UInt8) (ts : List Bool) (w : World) (hA : Rv w A (bvs xs)) (hn : xs.length = n) (hnc : n ≤ c) (hT : Rv w B (ts.map Value.bool)) (hm : ts.length = m) (hb : n ≤ 1048576) (hb2 : m ≤ 1048576) :
    Calls Try.prog 5 #[.slice A n c, .slice B m d] w fun e w' => e = .returned (.bool true) ∧ Below w.heap.size w w' := by
  have KA := K.mk hA
  have KT := K.mk hT
  clear hA hT
  subst hn; subst hm
  go_enter Try.func5, Try.ntmps5
  go_wp2_with fail
  refine (Ownb_calls A _ c (bvs xs) 71 _ KA.out (by rw [bvs_length]) (bvs_one xs) (by omega)).mono ?_
  rintro e w1 ⟨gi, rfl, hO, hB⟩
  have KO := K.mk hO
  have KB1 := K.mk hB
  clear hO hB
  go_wp2_with fail
  refine (New_calls _ _ _ xs _ (by simpa [bvs_length] using own_take KO.out xs.length) rfl (by omega)).mono ?_
  rintro e w2 ⟨g, rfl, hg, hI, hB⟩
  have KI2 := K.mk hI
  have KB2 := K.mk (thn KB1.out hB)
  have KO2 := K.mk (pwn KO.out hB)
  have hgw : w.heap.size ≤ g := Nat.le_trans KB1.out.size hg
  clear hI hB
  go_wp2_with fail
  have hbo : Both w w1.heap.size (w2.alloc (.cells #[.slice A xs.length c, .int .i64 0, .int .i64 0] 38)) g w2.heap.size xs 0 0 := by
    have hba := (Below.refl _ w2).alloc (Nat.le_refl _) (.cells #[.slice A xs.length c, .int .i64 0, .int .i64 0] 38)
    refine ⟨KI2.out.keep hba, ⟨A, c, by rw [heap_alloc_new]; rfl, (KA.out.below KB2.out).below hba, hnc, ?_⟩, Nat.zero_le _, thn KB2.out hba, KB1.out.size, hg, KI2.out.lt, by simp⟩
    intro ad had hx
    subst had
    have : ad.block < w.heap.size := by
      cases hxs : bvs xs with
      | nil => exact absurd hxs hx
      | cons u r =>
        obtain ⟨_, e1, hcc⟩ := KA.out 0 u (by rw [hxs]; rfl)
        cases e1
        have := World.block_lt_of_cell? w _ hcc
        rwa [add_block] at this
    exact ⟨by have := KB2.out.size; omega, this⟩
  have KBo := K.mk hbo
  clear hbo
  refine (awake_calls _).mono ?_
  rintro e w3 ⟨rfl, hB⟩
  have KBo3 := K.mk (KBo.out.keep hB)
  have KO3 := K.mk (pwn (pwn KO2.out ((Below.refl _ w2).alloc (Nat.le_refl _) _)) hB)
  clear hB
  go_wp2_with fail
  refine (Keptb_calls _ _ _ _ xs 71 _ (own_rvg KO3.out) (KA.out.below KBo3.out.bel) rfl (by omega)).mono ?_
  rintro e w4 ⟨rfl, KD⟩
  have KBo4 := K.mk (KBo3.out.keep (KD.below _))
  have KO4 := K.mk (pwn KO3.out (KD.below _))
  clear KD
  go_wp2_with fail
  have hgi := KO4.out.lt gi rfl
  refine (Spoil_calls gi xs.length _ xs _ w.heap.size (by simpa [bvs_length] using own_cut KO4.out xs.length (by omega)) (by omega)).mono ?_
  rintro e w5 ⟨rfl, hG⟩
  have KBo5 := K.mk (KBo4.out.far hG (.inr ⟨hgi.1, (KO.out.lt gi rfl).2⟩))
  clear hG hgi KO2 KO3 KO4 KBo KBo3 KBo4 KI2
  have hW : xs.length ≤ 140737488351232 := by omega
  generalize w2.heap.size = gr at *
  go_wp2_with fail
  go_loopw [8] (fun v wr => ∃ k : Nat, k ≤ ts.length ∧ v = .int .i64 (k : Int) ∧ K (∃ at_ er, Both w w1.heap.size wr g gr xs at_ er)) (fun v _ => ts.length - (intOf v).toNat)
  case atStart => exact ⟨0, Nat.zero_le _, rfl, ⟨0, 0, KBo5.out⟩⟩
  case round =>
    obtain ⟨k, hk, rfl, ⟨i, er, hbo⟩⟩ := hrel
    have KBo := K.mk hbo
    clear hbo
    by_cases hlt : k < ts.length ∧ k < 100
    · obtain ⟨hk1, hk2⟩ := hlt
      obtain ⟨ad, rfl, ht0⟩ := KT.out k (.bool ts[k]) (by simp [List.getElem?_eq_getElem hk1])
      have ht := (KBo.out.bel.cell (World.block_lt_of_cell? w _ ht0)).trans ht0
      clear ht0
      cases hb : ts[k] with
      | true =>
        rw [hb] at ht
        clear hb
        go_wp2_with fail
        refine (RdText_calls g xs i er _ KBo.out.rd KBo.out.le hW).mono ?_
        rintro e w6 ⟨v6, rfl, hO, hI, hG⟩
        have hz := KBo.out.o4
        have h3 := KBo.out.o3
        have h12 := KBo.out.o1
        have h2 := KBo.out.o2
        have hOl := hO.lt
        have KO6 := K.mk hO
        have KR6 := K.mk (KBo.out.rr.grown hG (by omega) (fun q hq => by omega))
        have KB6 := K.mk (bgrow KBo.out.bel hG (by omega))
        have KI6 := K.mk hI
        have hz6 := hG.size
        clear hO hI hG
        go_wp2_with fail
        refine (RrText_calls gr xs i er _ KR6.out KBo.out.le hW).mono ?_
        rintro e w7 ⟨v7, rfl, hO, hI, hG⟩
        obtain ⟨A7, c7, rfl, _, hr7⟩ := own_rv hO
        obtain ⟨A6, c6, rfl, _, hr6⟩ := own_rv KO6.out
        have hr6' := Rv.grown hr6 hG (fun ad h => by subst h; have := hOl ad.block rfl; omega)
        have KO7 := K.mk (KO6.out.kept hG (by
          rcases hv : Value.ownBlock _ with _ | q
          · exact .inl rfl
          · right
            have := hOl q hv
            intro e; cases e; omega))
        have KQ := K.mk (Both.mk (KI6.out.grown hG (by omega) (fun q hq => by omega)) hI (textP_le xs i er KBo.out.le) (bgrow KB6.out hG (by omega)) h12 h2 h3 (by have := hG.size; omega))
        have KR7 := K.mk hr7
        have KS6 := K.mk hr6'
        have KL := K.mk hOl
        clear hO hI hG hr7 hr6 hr6' hOl KR6 KI6 KO6
        go_wp2_with fail
        refine (Bytes_calls _ _ _ _ _ _ (textP xs i er).1 (textP xs i er).1 _ KS6.out KR7.out rfl rfl).mono ?_
        rintro e w8 ⟨rfl, rfl⟩
        rw [decide_eq_true rfl]
        go_wp2_with fail
        refine (Spoil_any _ _ _ _ _ KO7.out (by have := textP_len xs i er; omega)).mono ?_
        rintro e w9 ⟨rfl, hG⟩
        replace KQ := K.mk (KQ.out.far? hG (fun q hq => by have := KL.out q hq; omega))
        clear hG KO7 KR7 KS6 KL KB6 KBo
        obtain ⟨A0, cc0, q0, q1, q2, _, _, _, _⟩ := KQ.out.rr.cells
        have hle := KQ.out.le
        have s1 : IntKind.i64.wrap ((xs.length : Int) - ((textP xs i er).2).1) = ((xs.length - ((textP xs i er).2).1 : Nat) : Int) := by rw [IntWalk.i64_in _ (by omega)]; omega
        go_wp2_with fail
        go_quiet ((first
          | (go_at_call 22; exact Dr.quiet (Left_calls _ _ _ _ _ (KQ.out.keep (Dr.below ⟨_, rfl⟩ _)).rd KQ.out.le hW))
          | (go_at_call 23; exact Calls.quiet_of_same (Err_calls _ _ _ _ _ (KQ.out.keep (Dr.below ⟨_, rfl⟩ _)).rd))
          | (go_at_call 24; exact Dr.quiet (End_calls _ _ _ _ _ (KQ.out.keep (Dr.below ⟨_, rfl⟩ _)).rd KQ.out.le hW))
          | (go_at_call 25; exact Dr.quiet (RrEnd_calls _ _ _ _ _ (KQ.out.keep (Dr.below ⟨_, rfl⟩ _)).rr KQ.out.le hW))))
        go_wp2
        go_roundw
        case rel => exact ⟨k + 1, by omega, by go_num, ⟨_, _, KQ.out.keep (Dr.below ⟨_, rfl⟩ _)⟩⟩
        case measure => simp [intOf]; omega
      | false =>
        rw [hb] at ht
        clear hb
        go_wp2_with fail
        refine (RdNum_calls g xs i er _ KBo.out.rd KBo.out.le hW).mono ?_
        rintro e w6 ⟨rfl, hI, hG⟩
        have hz := KBo.out.o4
        have h3 := KBo.out.o3
        have h12 := KBo.out.o1
        have h2 := KBo.out.o2
        have KR6 := K.mk (KBo.out.rr.grown hG (by omega) (fun q hq => by omega))
        have KB6 := K.mk (bgrow KBo.out.bel hG (by omega))
        have KI6 := K.mk hI
        have hz6 := hG.size
        clear hI hG
        go_wp2_with fail
        refine (RrNum_calls gr xs i er _ KR6.out KBo.out.le hW).mono ?_
        rintro e w7 ⟨rfl, hI, hG⟩
        have KQ := K.mk (Both.mk (KI6.out.grown hG (by omega) (fun q hq => by omega)) hI (numP_le xs i er KBo.out.le) (bgrow KB6.out hG (by omega)) h12 h2 h3 (by have := hG.size; omega))
        clear hI hG KR6 KI6 KB6 KBo
        obtain ⟨A0, cc0, q0, q1, q2, _, _, _, _⟩ := KQ.out.rr.cells
        have hle := KQ.out.le
        have s1 : IntKind.i64.wrap ((xs.length : Int) - ((numP xs i er).2).1) = ((xs.length - ((numP xs i er).2).1 : Nat) : Int) := by rw [IntWalk.i64_in _ (by omega)]; omega
        go_wp2_with fail
        go_quiet ((first
          | (go_at_call 22; exact Dr.quiet (Left_calls _ _ _ _ _ (KQ.out.keep (Dr.below ⟨_, rfl⟩ _)).rd KQ.out.le hW))
          | (go_at_call 23; exact Calls.quiet_of_same (Err_calls _ _ _ _ _ (KQ.out.keep (Dr.below ⟨_, rfl⟩ _)).rd))
          | (go_at_call 24; exact Dr.quiet (End_calls _ _ _ _ _ (KQ.out.keep (Dr.below ⟨_, rfl⟩ _)).rd KQ.out.le hW))
          | (go_at_call 25; exact Dr.quiet (RrEnd_calls _ _ _ _ _ (KQ.out.keep (Dr.below ⟨_, rfl⟩ _)).rr KQ.out.le hW))))
        go_wp2
        go_roundw
        case rel => exact ⟨k + 1, by omega, by go_num, ⟨_, _, KQ.out.keep (Dr.below ⟨_, rfl⟩ _)⟩⟩
        case measure => simp [intOf]; omega
    · have hbel := K.mk KBo.out.bel
      by_cases hk1 : k < ts.length
      · have hk2 : ¬ k < 100 := by omega
        go_wp2
        go_ret
        exact ⟨rfl, hbel.out⟩
      · go_wp2
        go_ret
        exact ⟨rfl, hbel.out⟩
end Go.Proofs.Ytmoffojjdbmoiaa.code
