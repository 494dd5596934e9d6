import Derived.Test.YtdeegjhnomdepaaC08
import Derived.Test.YtdeegjhnomdepaaSt10
import Derived.Test.YtdeegjhnomdepaaSt6
import Derived.Test.YtdeegjhnomdepaaSt9
import Derived.Test.YtdeegjhnomdepaaAt2
set_option linter.unusedVariables false
namespace Go.Proofs.Ytdeegjhnomdepaa
open Go.Wl
attribute [local irreducible] WRs WDs WC
attribute [local go_sem] Value.cells List.toList_toArray aappend apSrc abuildS abuildS.go List.all_cons List.all_nil St.untag AV.untag AV.untag.untagL Ob.untag tmMap hpMap aopS aop ob St.setv St.ev St.get lk lset cond ltb ofConst ofConst.ofConst0 ank apick afield aload AV.part AV.aggOf afieldV astore AV.cells? AV.one D.one splice aext aun alen AV.list aconv acv abuiltin AV.toD AV.toD.toDL List.map Option.map abin aint ashift astr isConstNil nilOf aindex2 aindexV2 aslice2 asliceL2 ibnd2 aminmax List.take List.drop List.append Nat.zero_add Nat.add_zero List.nil_append List.cons_append List.length_cons List.length_nil List.getElem?_cons_zero List.getElem?_cons_succ List.all_cons List.all_nil Bool.and_true Bool.true_and if_true Bool.not_true Bool.not_false Bool.false_or Bool.or_false St.nmOf freshC freshN anewN abox aalloc anew tmHas hpHas ldel Ob.has AV.has AV.has.hasL unbytes_u8 aggD dL eqF eq1 eq_self wd_int cl_int wd_bool cl_bool wd_str cl_str wd_nilp cl_nilp wd_nilfunc cl_nilfunc wd_nilif cl_nilif wd_list cl_list wd_cptr cl_cptr wd_iface cl_iface wd_func cl_func wd_agg cl_agg Int.toNat_natCast Int.natCast_nonneg true_and and_true decide_true decide_false Bool.cond_self Bool.false_eq_true if_false aopD aval acvP abval ag_23 ag_3 fd_23_0 fd_23_1 fd_23_2 fd_23_3 fd_23_4 fd_23_5 fd_23_6 sq_23 tk_2 tk_23 tk_3 tk_4 zv_23
open Go.Proofs.Ytdeegjhnomdepaa.st
abbrev stD (y m d h mi s z : Int) : D := .agg [.int .i64 y, .int .i64 m, .int .i64 d, .int .i64 h, .int .i64 mi, .int .i64 s, .int .i64 z]
theorem awake_con : Pu Try.prog 9 [] (.bool true) := Pu.ofCalls (us := []) (u := .bool true) (by kernel_rfl) rfl rfl fun w => awake_calls w
theorem rright_con (y m d h mi s z : Int) : Pu Try.prog 10 [stD y m d h mi s z] (.bool (Rt y m d h mi s z)) := Pu.ofCalls (us := [stv y m d h mi s z]) (u := .bool (Rt y m d h mi s z)) (by kernel_rfl) rfl rfl fun w => rRight_calls y m d h mi s z w
theorem seconds_con (y m d h mi s z : Int) : Pu Try.prog 12 [stD y m d h mi s z] (.int .i64 (secs y m d h mi s z)) := Pu.ofCalls (us := [stv y m d h mi s z]) (u := .int .i64 (secs y m d h mi s z)) (by kernel_rfl) rfl rfl fun w => Seconds_calls y m d h mi s z w
theorem at_out_con (sec z : Int) (h : ¬ inR sec z) : Pu Try.prog 13 [.int .i64 sec, .int .i64 z] (.tup [stD 0 0 0 0 0 0 0, .bool false]) :=
  Pu.ofCallsT (us := [.int .i64 sec, .int .i64 z]) (ys := [stv 0 0 0 0 0 0 0, .bool false]) (by kernel_rfl) rfl rfl fun w => (At_calls sec z w).mono fun e w' ⟨v, q1, q2, q3⟩ => ⟨by rw [q1, AtV_one q2 (.inl ⟨h, rfl⟩)], q3⟩
theorem at_in_con (y m d h mi s z : Int) (r : Rt y m d h mi s z = true) : Pu Try.prog 13 [.int .i64 (secs0 y m d h mi s z), .int .i64 z] (.tup [stD y m d h mi s z, .bool true]) :=
  Pu.ofCallsT (us := [.int .i64 (secs0 y m d h mi s z), .int .i64 z]) (ys := [stv y m d h mi s z, .bool true]) (by kernel_rfl) rfl rfl fun w => (At_calls _ z w).mono fun e w' ⟨v, q1, q2, q3⟩ => ⟨by rw [q1, AtV_one q2 (.inr ⟨y, m, d, h, mi, s, r, rfl, rfl⟩)], q3⟩
end Go.Proofs.Ytdeegjhnomdepaa
