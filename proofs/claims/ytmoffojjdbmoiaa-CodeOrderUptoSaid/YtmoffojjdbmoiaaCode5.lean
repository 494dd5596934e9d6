/- Walks over chapter 1: the law CodeOrder. -/
import Derived.Test.YtmoffojjdbmoiaaCode4
import Derived.Test.YtmoffojjdbmoiaaOrd
import Derived.Deep.RegionLaw
set_option linter.unusedVariables false
set_option linter.unusedSimpArgs false
namespace Go.Proofs.Ytmoffojjdbmoiaa.code
open Go.RowKit Go.Proofs.Ytmoffojjdbmoiaa.b Go.Proofs.Ytmoffojjdbmoiaa.help

theorem nmText : (Try.f13.name == "runtime.NumGoroutine") = false := by kernel_rfl
theorem nmNum : (Try.f11.name == "runtime.NumGoroutine") = false := by kernel_rfl

set_option maxHeartbeats 4000000 in
theorem CodeOrder_calls (a b : Nat) (A2 A3 A4 A5 : Option Addr) (n2 c2 n3 c3 n4 c4 n5 c5 : Nat) (x y more other : List UInt8) (w : World) (ha : a < 256 ^ 8) (hb : b < 256 ^ 8)
    (h2 : Rv w A2 (bvs x)) (h3 : Rv w A3 (bvs y)) (h4 : Rv w A4 (bvs more)) (h5 : Rv w A5 (bvs other)) (e2 : x.length = n2) (e3 : y.length = n3) (e4 : more.length = n4) (e5 : other.length = n5)
    (l2 : n2 ≤ 1048576) (l3 : n3 ≤ 1048576) (l4 : n4 ≤ 1048576) (l5 : n5 ≤ 1048576) :
    Calls Try.prog 4 #[.int .u64 (a : Int), .int .u64 (b : Int), .slice A2 n2 c2, .slice A3 n3 c3, .slice A4 n4 c4, .slice A5 n5 c5] w fun e w' => e = .returned (.bool true) ∧ Below w.heap.size w w' := by
  subst e2; subst e3; subst e4; subst e5
  have Ka := K.mk ha
  have Kb := K.mk hb
  have K2 := K.mk h2
  have K3 := K.mk h3
  have K4 := K.mk h4
  have K5 := K.mk h5
  have KB0 := K.mk (Below.refl w.heap.size w).drew
  have la := be_length 8 a ha
  have lb := be_length 8 b hb
  have e1 : (num a).length = (be a).length + 1 := rfl
  have e2 : (num b).length = (be b).length + 1 := rfl
  have la' : (num a).length ≤ 9 := by omega
  have lb' : (num b).length ≤ 9 := by omega
  clear e1 e2 la lb
  have lx := tx_length x
  have ly := tx_length y
  clear ha hb h2 h3 h4 h5
  go_enter Try.func4, Try.ntmps4
  go_upto_region 1 with (fail)
  go_cut [13, 14] (fun s13 s14 wx => s13 = .string ⟨(num a ++ more).toArray⟩ ∧ s14 = .string ⟨(num b ++ other).toArray⟩ ∧ K (Below w.heap.size w wx))
  case first =>
    go_region_law ((first
      | (refine stepCall rfl 11 Try.f11 Try.func11 nmNum rfl [.tmp 17] _ rfl [.int .u64 (a : Int)] rfl _ (Num_calls a _ Ka.out) ?_; rintro e w1 ⟨u1, rfl, hO, hB⟩; refine ⟨_, rfl, ?_⟩; have KO1 := K.mk (own_lower hO KB0.out.size); have KB1 := K.mk (thn KB0.out hB); have hz1 := KB1.out.size; clear hO hB)
      | (refine stepApp rfl _ _ 23 5 (.int .u8 0) 1 1 rfl rfl info5 rfl (by decide) _ (num a).length (bvs (num a)) _ _ _ (bvs more) rfl rfl (by simp [bvs]) KO1 KB1 hz1 (K4.out.below KB1.out) (bvs_one _) (by omega) (by omega) ?_; intro v2 w2 KO2 KB2 _; have hz2 := KB2.out.size; obtain ⟨A2', c2', rfl, _, hr2⟩ := own_rv KO2.out; rw [← bvs_append] at hr2; have hcv2 := conv_all Try.prog w2 23 5 9 rfl rfl rfl A2' _ c2' _ hr2 (List.length_append ..); have hbl := Below.refl w2.heap.size w2; clear hr2)
      | (refine stepCall rfl 11 Try.f11 Try.func11 nmNum rfl [.tmp 22] _ rfl [.int .u64 (b : Int)] rfl _ (Num_calls b _ Kb.out) ?_; rintro e w3 ⟨u3, rfl, hO, hB⟩; refine ⟨_, rfl, ?_⟩; have KO3 := K.mk (own_lower hO (Nat.le_refl _)); have KB3 := K.mk (thn KB2.out hB); have hz3 := KB3.out.size; have hbl3 := hB; clear hO)
      | (refine stepApp rfl _ _ 23 5 (.int .u8 0) 1 1 rfl rfl info5 rfl (by decide) _ (num b).length (bvs (num b)) _ _ _ (bvs other) rfl rfl (by simp [bvs]) KO3 (K.mk hbl3) hbl3.size (K5.out.below KB3.out) (bvs_one _) (by omega) (by omega) ?_; intro v4 w4 KO4 KB4 _; have hbl4 := KB4.out; obtain ⟨A4', c4', rfl, _, hr4⟩ := own_rv KO4.out; rw [← bvs_append] at hr4; have hcv4 := conv_all Try.prog w4 23 5 9 rfl rfl rfl A4' _ c4' _ hr4 (List.length_append ..); have hbl4' := Below.refl w4.heap.size w4; clear hr4)))
    all_goals
      go_wp2_with fail
      go_meet
      exact ⟨rfl, rfl, ⟨thn KB2.out KB4.out⟩⟩
  case rest =>
    obtain ⟨rfl, rfl, KBx⟩ := hcut
    have KBy := K.mk KBx.out.drew
    have elx : (txt x).length = (tx x).length + 2 := by simp [txt]
    have ely : (txt y).length = (tx y).length + 2 := by simp [txt]
    have lx' : (txt x).length ≤ 2 * x.length + 2 := by omega
    have ly' : (txt y).length ≤ 2 * y.length + 2 := by omega
    clear elx ely lx ly
    go_upto_region 2 with (fail)
    go_cut [15, 16] (fun s15 s16 wx => s15 = .string ⟨(txt x ++ more).toArray⟩ ∧ s16 = .string ⟨(txt y ++ other).toArray⟩ ∧ K (Below w.heap.size w wx))
    case first =>
      go_region_law ((first
        | (refine stepCall rfl 13 Try.f13 Try.func13 nmText rfl [.tmp 27] _ rfl [.slice A2 x.length c2] rfl _ (Text_calls A2 _ c2 x _ (K2.out.below KBy.out) rfl (by omega)) ?_; rintro e w1 ⟨u1, rfl, hO, hB⟩; refine ⟨_, rfl, ?_⟩; have KO1 := K.mk (own_lower hO KBy.out.size); have KB1 := K.mk (thn KBy.out hB); have hz1 := KB1.out.size; clear hO hB)
        | (refine stepApp rfl _ _ 23 5 (.int .u8 0) 1 1 rfl rfl info5 rfl (by decide) _ (txt x).length (bvs (txt x)) _ _ _ (bvs more) rfl rfl (by simp [bvs]) KO1 KB1 hz1 (K4.out.below KB1.out) (bvs_one _) (by omega) (by omega) ?_; intro v2 w2 KO2 KB2 _; have hz2 := KB2.out.size; obtain ⟨A2', c2', rfl, _, hr2⟩ := own_rv KO2.out; rw [← bvs_append] at hr2; have hcv2 := conv_all Try.prog w2 23 5 9 rfl rfl rfl A2' _ c2' _ hr2 (List.length_append ..); have hbl := Below.refl w2.heap.size w2; clear hr2)
        | (refine stepCall rfl 13 Try.f13 Try.func13 nmText rfl [.tmp 32] _ rfl [.slice A3 y.length c3] rfl _ (Text_calls A3 _ c3 y _ (K3.out.below KB2.out) rfl (by omega)) ?_; rintro e w3 ⟨u3, rfl, hO, hB⟩; refine ⟨_, rfl, ?_⟩; have KO3 := K.mk (own_lower hO (Nat.le_refl _)); have KB3 := K.mk (thn KB2.out hB); have hz3 := KB3.out.size; have hbl3 := hB; clear hO)
        | (refine stepApp rfl _ _ 23 5 (.int .u8 0) 1 1 rfl rfl info5 rfl (by decide) _ (txt y).length (bvs (txt y)) _ _ _ (bvs other) rfl rfl (by simp [bvs]) KO3 (K.mk hbl3) hbl3.size (K5.out.below KB3.out) (bvs_one _) (by omega) (by omega) ?_; intro v4 w4 KO4 KB4 _; have hbl4 := KB4.out; obtain ⟨A4', c4', rfl, _, hr4⟩ := own_rv KO4.out; rw [← bvs_append] at hr4; have hcv4 := conv_all Try.prog w4 23 5 9 rfl rfl rfl A4' _ c4' _ hr4 (List.length_append ..); have hbl4' := Below.refl w4.heap.size w4; clear hr4)))
      all_goals
        go_wp2_with fail
        go_meet
        exact ⟨rfl, rfl, ⟨thn KB2.out KB4.out⟩⟩
    case rest =>
      obtain ⟨rfl, rfl, KBz⟩ := hcut
      have hcx := conv_all Try.prog w 23 5 9 rfl rfl rfl A2 _ c2 _ K2.out rfl
      have hcy := conv_all Try.prog w 23 5 9 rfl rfl rfl A3 _ c3 _ K3.out rfl
      by_cases hab : a = b
      · subst hab
        by_cases hxy : x = y
        · subst hxy
          go_wp2_with (go_at_call 9; refine (awake_calls _).mono ?_; rintro e w9 ⟨rfl, hB⟩; have hbw := thn KBz.out hB; have KBw := K.mk hbw; clear hB)
          go_ret
          exact ⟨rfl, KBw.out⟩
        · have hl2 := txt_less x y hxy more other
          go_wp2_with (go_at_call 9; refine (awake_calls _).mono ?_; rintro e w9 ⟨rfl, hB⟩; have hbw := thn KBz.out hB; have KBw := K.mk hbw; clear hB)
          go_ret
          exact ⟨rfl, KBw.out⟩
      · have ha1 : ((a : Int) == b) = false := by rw [beq_eq_false_iff_ne]; omega
        have hl1 := num_less a b Ka.out Kb.out hab more other
        by_cases hxy : x = y
        · subst hxy
          go_wp2_with (go_at_call 9; refine (awake_calls _).mono ?_; rintro e w9 ⟨rfl, hB⟩; have hbw := thn KBz.out hB; have KBw := K.mk hbw; clear hB)
          go_ret
          exact ⟨rfl, KBw.out⟩
        · have hl2 := txt_less x y hxy more other
          go_wp2_with (go_at_call 9; refine (awake_calls _).mono ?_; rintro e w9 ⟨rfl, hB⟩; have hbw := thn KBz.out hB; have KBw := K.mk hbw; clear hB)
          go_ret
          exact ⟨rfl, KBw.out⟩
end Go.Proofs.Ytmoffojjdbmoiaa.code
