/- Walks over chapter 1: the law CodeBack. -/
import Derived.Test.YtmoffojjdbmoiaaCode6
import Derived.Test.YtmoffojjdbmoiaaBack
set_option linter.unusedVariables false
set_option linter.unusedSimpArgs false
namespace Go.Proofs.Ytmoffojjdbmoiaa.code
open Go.RowKit Go.Proofs.Ytmoffojjdbmoiaa.b Go.Proofs.Ytmoffojjdbmoiaa.help
variable {S : Nat → Prop}

theorem Rv.grown {w w' : World} {A : Option Addr} {vs : List Value} {g : Nat} (h : Rv w A vs) (hg : w.grownBy w' (some g)) (hne : ∀ ad, A = some ad → ad.block ≠ g) : Rv w' A vs := by
  intro i v hv
  obtain ⟨ad, e, hc⟩ := h i v hv
  exact ⟨ad, e, hg.cell hc (by rw [add_block]; simpa using hne ad e)⟩
theorem bgrow {w W W' : World} {g : Nat} (h : Below w.heap.size w W) (hg : W.grownBy W' (some g)) (hge : w.heap.size ≤ g) : Below w.heap.size w W' :=
  h.grown hg h.size (fun k hk => by cases hk; exact hge)

theorem numP_le (bs : List UInt8) (i er : Nat) (h : i ≤ bs.length) : (numP bs i er).2.1 ≤ bs.length := by
  unfold numP takeP
  split
  · exact h
  · split
    · exact h
    · rename_i h1 h2
      exact (numE_le bs i (by simpa using h2)).2
theorem textP_le (bs : List UInt8) (i er : Nat) (h : i ≤ bs.length) : (textP bs i er).2.1 ≤ bs.length := by
  unfold textP takeP
  split
  · exact h
  · split
    · exact h
    · rename_i h1 h2
      exact (txtE_le bs i (by simpa using h2)).2
theorem cutm (cut D : Int) (L : Nat) (hD : D = (L : Int)) (h : 0 < L) (hL : L ≤ 140737488351232) : ∃ m : Nat, m < L ∧ wrap64 ((IntKind.u64.wrap cut).tmod D) = (m : Int) := by
  subst hD
  rw [IntKind.wrap_u64]
  have h0 : 0 ≤ cut % 18446744073709551616 := Int.emod_nonneg _ (by omega)
  rw [Int.tmod_eq_emod_of_nonneg h0]
  have h1 : 0 ≤ cut % 18446744073709551616 % (L : Int) := Int.emod_nonneg _ (by omega)
  have h2 : cut % 18446744073709551616 % (L : Int) < L := Int.emod_lt_of_pos _ (by omega)
  generalize cut % 18446744073709551616 % (L : Int) = r at h1 h2
  refine ⟨r.toNat, by omega, ?_⟩
  unfold wrap64
  omega

set_option maxHeartbeats 4000000 in
theorem CodeBack_calls (v u : Nat) (cut : Int) (A : Option Addr) (n c : Nat) (xs : List UInt8) (w : World) (hv : v < 256 ^ 8) (hu : u < 256 ^ 8) (hcut : (Lit.int .i64 cut).wf = true) (hA : Rv w A (bvs xs)) (hn : xs.length = n) (hb : n ≤ 1048576) :
    Calls Try.prog 7 #[.int .u64 (v : Int), .slice A n c, .int .u64 (u : Int), .int .i64 cut] w fun e w' => e = .returned (.bool true) ∧ Below w.heap.size w w' := by
  have KA := K.mk hA
  have KV := K.mk hv
  have KU := K.mk hu
  have KC := K.mk hcut
  clear hA hv hu hcut
  have lv := be_length 8 v KV.out
  have lu := be_length 8 u KU.out
  have ltx := tx_length xs
  have e1 : (num v).length = (be v).length + 1 := rfl
  have e2 : (num u).length = (be u).length + 1 := rfl
  have e3 : (txt xs).length = (tx xs).length + 2 := by simp [txt]
  have lnv : (num v).length ≤ 9 := by omega
  have lnu : (num u).length ≤ 9 := by omega
  have ltt : (txt xs).length ≤ 2 * xs.length + 2 := by omega
  have lpos := num_pos v
  clear e1 e2 e3 lv lu ltx
  subst hn
  go_enter Try.func7, Try.ntmps7
  go_wp2_with fail
  refine (Num_calls v _ KV.out).mono ?_
  rintro e w1 ⟨u1, rfl, hO, hB⟩
  have KO1 := K.mk hO
  have KB1 := K.mk hB
  clear hO hB
  go_wp2_with fail
  refine (Text_calls A _ c xs _ (KA.out.below KB1.out) rfl (by omega)).mono ?_
  rintro e w2 ⟨u2, rfl, hO, hB⟩
  obtain ⟨A2, c2, rfl, _, hr⟩ := own_rv hO
  have KR2 := K.mk hr
  have KB2 := K.mk (thn KB1.out hB)
  have KO1' := K.mk (pwn KO1.out hB)
  have hz2 := KB2.out.size
  clear hO hB hr KO1
  go_wp2_with (at_builtin; refine app rfl _ _ 23 5 (.int .u8 0) 1 1 rfl rfl info5 rfl (by decide) _ (num v).length (bvs (num v)) _ _ _ (bvs (txt xs)) rfl rfl (by simp [bvs]) KO1' KB2 hz2 KR2.out (bvs_one _) (by omega) (by omega) ?_; intro v3 w3 KO3 KB3 _)
  clear KO1' KR2
  refine (Num_calls u _ KU.out).mono ?_
  rintro e w4 ⟨u4, rfl, hO, hB⟩
  obtain ⟨A4, c4, rfl, _, hr⟩ := own_rv hO
  have KR4 := K.mk hr
  have KB4 := K.mk (thn KB3.out hB)
  have KO3' := K.mk (pwn KO3.out hB)
  have hz4 := KB4.out.size
  clear hO hB hr KO3
  go_wp2_with (at_builtin; refine app rfl _ _ 23 5 (.int .u8 0) 1 1 rfl rfl info5 rfl (by decide) _ ((num v).length + (txt xs).length) (bvs (num v) ++ bvs (txt xs)) _ _ _ (bvs (num u)) rfl rfl (by simp [bvs]) KO3' KB4 hz4 KR4.out (bvs_one _) (by omega) (by omega) ?_; intro v5 w5 KO5 KB5 _; obtain ⟨A5, c5, rfl, hc5, hr5⟩ := own_rv KO5.out; have KR5 := K.mk hr5; clear hr5)
  have KL : K (bvs (num v) ++ bvs (txt xs) ++ bvs (num u) = bvs (back v xs u)) := ⟨by rw [back, bvs_append, bvs_append]⟩
  rw [KL.out] at KR5 KO5
  have hlen : (back v xs u).length = (num v).length + (txt xs).length + (num u).length := by simp [back, Nat.add_assoc]
  have hW : (back v xs u).length ≤ 140737488351232 := by omega
  have b1 := back1 v xs u KV.out
  have b2 := back2 v xs u
  have b3 := back3 v xs u KU.out
  have i1 : (num v).length ≤ (back v xs u).length := by omega
  have i2 : (num v).length + (txt xs).length ≤ (back v xs u).length := by omega
  have sh := short3 v xs u KV.out KU.out
  have hA5 : ∀ ad, A5 = some ad → ad.block < w5.heap.size := fun ad h => by subst h; exact (KO5.out.lt ad.block rfl).2
  generalize back v xs u = bs at *
  have Kb1 := K.mk b1
  have Kb2 := K.mk b2
  have Kb3 := K.mk b3
  have Ksh := K.mk sh
  have KA5 := K.mk hA5
  have Klen := K.mk hlen
  clear b1 b2 b3 sh hA5 hlen KL KO3' KR4
  refine (New_calls A5 _ c5 bs _ KR5.out Klen.out (by rw [← Klen.out]; exact hW)).mono ?_
  rintro e w6 ⟨g, rfl, hg, hI, hB⟩
  have KI6 := K.mk hI
  have KB6 := K.mk (thn KB5.out hB)
  have KR6 := K.mk (KR5.out.below hB)
  have hgw : w.heap.size ≤ g := Nat.le_trans KB5.out.size hg
  have KG := K.mk hg
  clear hI hB hg
  go_wp2_with fail
  refine (awake_calls _).mono ?_
  rintro e w7 ⟨rfl, hB⟩
  have KI7 := K.mk (KI6.out.keep hB)
  have KB7 := K.mk (thn KB6.out hB)
  have KR7 := K.mk (KR6.out.below hB)
  clear hB
  go_wp2_with fail
  have h8 := RdNum_calls g bs 0 0 _ KI7.out (by omega) hW
  rw [Kb1.out] at h8
  refine h8.mono ?_
  rintro e w8 ⟨rfl, hI, hG⟩
  have KI8 := K.mk hI
  have KB8 := K.mk (bgrow KB7.out hG hgw)
  have KR8 := K.mk (Rv.grown KR7.out hG (fun ad h => by have := KA5.out ad h; have := KG.out; omega))
  clear hI hG h8
  go_wp2_with fail
  have h9 := RdText_calls g bs (num v).length 0 _ KI8.out i1 hW
  rw [Kb2.out] at h9
  refine h9.mono ?_
  rintro e w9 ⟨u9, rfl, hO, hI, hG⟩
  obtain ⟨A9, c9, rfl, _, hr⟩ := own_rv hO
  have KR9 := K.mk hr
  have KI9 := K.mk hI
  have KB9 := K.mk (bgrow KB8.out hG hgw)
  have KS9 := K.mk (Rv.grown KR8.out hG (fun ad h => by have := KA5.out ad h; have := KG.out; omega))
  clear hI hG h9 hO hr
  go_wp2_with fail
  refine (Bytes_calls _ _ _ _ _ _ xs xs _ KR9.out (KA.out.below KB9.out) rfl rfl).mono ?_
  rintro e w10 ⟨rfl, rfl⟩
  rw [decide_eq_true rfl]
  go_wp2_with fail
  have h11 := RdNum_calls g bs _ 0 _ KI9.out i2 hW
  rw [Kb3.out] at h11
  refine h11.mono ?_
  rintro e w11 ⟨rfl, hI, hG⟩
  have KI11 := K.mk hI
  have KB11 := K.mk (bgrow KB9.out hG hgw)
  have KR11 := K.mk (Rv.grown KS9.out hG (fun ad h => by have := KA5.out ad h; have := KG.out; omega))
  clear hI hG h11
  go_wp2_with fail
  have h12 := End_calls g bs _ 0 _ KI11.out (Nat.le_refl _) hW
  rw [endP, if_pos rfl, if_neg (by omega)] at h12
  refine h12.mono ?_
  rintro e w12 ⟨rfl, KD⟩
  have KI12 := K.mk (KI11.out.keep (KD.below _))
  have KB12 := K.mk (thn KB11.out (KD.below _))
  have KR12 := K.mk (KR11.out.below (KD.below _))
  clear KD h12
  go_wp2_with fail
  have h13 := Left_calls g bs _ 0 _ KI12.out (Nat.le_refl _) hW
  rw [Nat.sub_self] at h13
  refine h13.mono ?_
  rintro e w13 ⟨rfl, KD⟩
  have KB13 := K.mk (thn KB12.out (KD.below _))
  have KR13 := K.mk (KR12.out.below (KD.below _))
  clear KD h13 KI6 KI7 KI8 KI9 KI11 KI12 KR5 KR6 KR7 KR8 KR9 KS9 KR11 KR12
  obtain ⟨m, hm, em⟩ := cutm cut (((num v).length : Int) + (txt xs).length + (num u).length) bs.length (by rw [Klen.out]; simp) (by omega) hW
  have hmc : m ≤ c5 := by have := Klen.out; omega
  go_wp2_with fail
  have hts : (bs.take m).length = m := by simp; omega
  have Kts := K.mk hts
  have f3 := Ksh.out m hm
  have Kf := K.mk f3
  clear hts f3 em
  have htr : Rv w13 A5 (bvs (bs.take m)) := by
    have := KR13.out.take m
    rw [bvs, ← List.map_take] at this
    exact this
  refine (New_calls A5 _ _ (bs.take m) _ htr Kts.out (by omega)).mono ?_
  rintro e w14 ⟨g2, rfl, hg2, hI, hB⟩
  have KI14 := K.mk hI
  have KB14 := K.mk (thn KB13.out hB)
  have hgw2 : w.heap.size ≤ g2 := Nat.le_trans KB13.out.size hg2
  have hpl : (bs.take m).length ≤ 140737488351232 := by have := Kts.out; omega
  clear hI hB htr
  generalize bs.take m = q at *
  clear Kts KR13 Kb1 Kb2 Kb3 Ksh KA5 Klen KO5 KG
  have j1 := numP_le q 0 0 (by omega)
  have j2 := textP_le q (numP q 0 0).2.1 (numP q 0 0).2.2 j1
  go_wp2_with fail
  refine (RdNum_calls g2 q 0 0 _ KI14.out (by omega) hpl).mono ?_
  rintro e w15 ⟨rfl, hI, hG⟩
  have KI15 := K.mk hI
  have KB15 := K.mk (bgrow KB14.out hG hgw2)
  clear hI hG
  go_wp2_with fail
  refine (RdText_calls g2 q _ _ _ KI15.out j1 hpl).mono ?_
  rintro e w16 ⟨u16, rfl, hO, hI, hG⟩
  have KI16 := K.mk hI
  have KB16 := K.mk (bgrow KB15.out hG hgw2)
  clear hI hG hO
  go_wp2_with fail
  refine (RdNum_calls g2 q _ _ _ KI16.out j2 hpl).mono ?_
  rintro e w17 ⟨rfl, hI, hG⟩
  have KI17 := K.mk hI
  have KB17 := K.mk (bgrow KB16.out hG hgw2)
  clear hI hG
  go_wp2_with fail
  have h18 := Err_calls g2 q _ _ _ KI17.out
  rw [show (numP q (textP q (numP q 0 0).2.1 (numP q 0 0).2.2).2.1 (textP q (numP q 0 0).2.1 (numP q 0 0).2.2).2.2).2.2 = 8 from Kf.out] at h18
  refine h18.mono ?_
  rintro e w18 ⟨rfl, rfl⟩
  clear h18
  go_wp2
  go_ret
  exact ⟨rfl, KB17.out⟩
end Go.Proofs.Ytmoffojjdbmoiaa.code
