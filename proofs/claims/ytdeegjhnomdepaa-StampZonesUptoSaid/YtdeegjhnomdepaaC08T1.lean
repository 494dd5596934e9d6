import Derived.Test.YtdeegjhnomdepaaC08T0
set_option maxRecDepth 100000
set_option linter.unusedVariables false
set_option linter.unusedSimpArgs false
namespace Go.Proofs.Ytdeegjhnomdepaa
open Go.Wl
attribute [local irreducible] WRs WDs WC
attribute [local go_sem] Value.cells List.toList_toArray aappend apSrc abuildS abuildS.go List.all_cons List.all_nil St.untag AV.untag AV.untag.untagL Ob.untag tmMap hpMap aopS aop ob St.setv St.ev St.get lk lset cond ltb ofConst ofConst.ofConst0 ank apick afield aload AV.part AV.aggOf afieldV astore AV.cells? AV.one D.one splice aext aun alen AV.list aconv acv abuiltin AV.toD AV.toD.toDL List.map Option.map abin aint ashift astr isConstNil nilOf aindex2 aindexV2 aslice2 asliceL2 ibnd2 aminmax List.take List.drop List.append Nat.zero_add Nat.add_zero List.nil_append List.cons_append List.length_cons List.length_nil List.getElem?_cons_zero List.getElem?_cons_succ List.all_cons List.all_nil Bool.and_true Bool.true_and if_true Bool.not_true Bool.not_false Bool.false_or Bool.or_false St.nmOf freshC freshN anewN abox aalloc anew tmHas hpHas ldel Ob.has AV.has AV.has.hasL unbytes_u8 aggD dL eqF eq1 eq_self wd_int cl_int wd_bool cl_bool wd_str cl_str wd_nilp cl_nilp wd_nilfunc cl_nilfunc wd_nilif cl_nilif wd_list cl_list wd_cptr cl_cptr wd_iface cl_iface wd_func cl_func wd_agg cl_agg Int.toNat_natCast Int.natCast_nonneg true_and and_true decide_true decide_false Bool.cond_self Bool.false_eq_true if_false aopD aval acvP abval ag_23 ag_3 fd_23_0 fd_23_1 fd_23_2 fd_23_3 fd_23_4 fd_23_5 fd_23_6 sq_23 tk_2 tk_23 tk_3 tk_4 zv_23
open Go.Proofs.Ytdeegjhnomdepaa.st
theorem okey_con (y m d h mi s z : Int) (r : Rt y m d h mi s z = true) : Pu Try.prog 11 [stD y m d h mi s z] (.int .i64 (key y m d h mi s)) := by
  rw [Rt_true] at r
  have hdm := dm_range y m
  refine okey_o (by simp) ?_
  simp only [numb, List.map_cons, List.map_nil, Nat.zero_add]
  have w1 : ∀ x : Int, -9223372036854775808 ≤ x → x < 9223372036854775808 → IntKind.i64.wrap x = x := fun x a b => w64 a b
  repeat' (first
    | with_reducible refine WC_seq ?_
    | with_reducible refine WC_region ?_
    | with_reducible refine WC_skip ?_
    | with_reducible refine WC_ret ?_
    | with_reducible refine WC_exit ?_
    | with_reducible refine WC_block ?_
    | with_reducible refine thenQ_n ?_
    | with_reducible refine thenQ_r ?_
    | with_reducible refine thenQ_e ?_
    | with_reducible refine blockQ_n ?_
    | with_reducible refine blockQ_r ?_
    | with_reducible refine blockQ_e ?_
    | with_reducible refine blockQ_o rfl ?_
    | with_reducible refine WRs_nil ?_
    | ((with_reducible apply RUN_bool); (focus (intro q hq; simp only [go_sem, Nat.reduceAdd, Nat.reduceSub, Nat.reduceMul] at hq; exact hq.symm)); (focus (intro b q hq; simp only [St.setv, lset, cond, ltb] at hq; exact hq.symm)); intro bb hb; (first | (with_reducible have h9 : true = bb := hb; clear hb; subst h9) | (with_reducible have h9 : false = bb := hb; clear hb; subst h9) | skip))
    | ((with_reducible apply WRs_nil2); (focus (intro q hq; simp only [nilS, isSl, isConstNil, St.ev, St.get, lk, cond, Bool.and_true, Bool.and_self, tk_2, tk_23, tk_3, tk_4] at hq; exact hq.symm)); (focus (intro b q hq; simp only [St.setv, lset, cond, ltb] at hq; exact hq.symm)); intro bb hb; (first | (with_reducible have h9 : true = bb := hb; clear hb; subst h9) | (with_reducible have h9 : false = bb := hb; clear hb; subst h9) | skip))
    | ((with_reducible apply RUN_n); (focus (intro q hq; simp only [go_sem, Nat.reduceAdd, Nat.reduceSub, Nat.reduceMul] at hq; exact hq.symm)))
    | ((with_reducible apply RUN_gt); (focus (intro q hq; simp only [St.get, lk, cond] at hq; exact hq.symm)))
    | ((with_reducible apply RUN_gf); (focus (intro q hq; simp only [St.get, lk, cond] at hq; exact hq.symm)); (focus (intro q hq; simp only [St.setv, lset, cond, ltb] at hq; exact hq.symm)))
    | ((with_reducible apply RUN_gu); (focus (intro q hq; simp only [St.get, lk, cond] at hq; exact hq.symm)); (focus (intro q hq; simp only [St.setv, lset, cond, ltb] at hq; exact hq.symm)))
    | ((with_reducible apply RUN_gv); (focus (intro q hq; simp only [St.get, lk, cond] at hq; exact hq.symm)); (focus (intro q hq; simp only [St.setv, lset, cond, ltb] at hq; exact hq.symm)); intro e; (first | subst e | (simp only [Bool.not_eq_true', Bool.not_eq_false'] at e; subst e)); rotate_left; intro e; simp only [Bool.not_true, Bool.not_false, Bool.not_eq_true', Bool.not_eq_false'] at e; subst e)
    | ((with_reducible apply RUN_ct); (focus (intro q hq; simp only [St.ev, St.get, lk, cond, ofConst] at hq; exact hq.symm)))
    | ((with_reducible apply RUN_cf); (focus (intro q hq; simp only [St.ev, St.get, lk, cond, ofConst] at hq; exact hq.symm)))
    | ((with_reducible apply RUN_phi); (focus (intro q hq; simp only [St.ev, St.get, lk, cond, ofConst] at hq; exact hq.symm)); (focus (intro q hq; simp only [runP, go_sem, Nat.reduceAdd, Nat.reduceSub, Nat.reduceMul] at hq; exact hq.symm)); (focus (intro q hq; simp only [phiS, phiAV, phiD, dstsOf, app, lset, St.get, lk, cond, decide_true, if_true] at hq; exact hq.symm)))
    | ((with_reducible apply RUN_phi2); (focus (intro q hq; simp only [St.ev, St.get, lk, cond, ofConst] at hq; exact hq.symm)); (focus (intro q hq; simp only [runP, go_sem, Nat.reduceAdd, Nat.reduceSub, Nat.reduceMul] at hq; exact hq.symm)); (focus (intro q hq; simp only [runP, go_sem, Nat.reduceAdd, Nat.reduceSub, Nat.reduceMul] at hq; exact hq.symm)); (focus (intro q hq; simp only [phiS, phiAV, phiD, dstsOf, app, lset, St.get, lk, cond, decide_true, if_true] at hq; exact hq.symm)))
    | ((with_reducible apply RUN_cv); (focus (intro q hq; simp only [St.ev, St.get, lk, cond, ofConst] at hq; exact hq.symm)); all_goals (intro e; first | cases e | (simp only [Bool.not_eq_true', Bool.not_eq_false'] at e; subst e) | skip)))
  (with_reducible apply RUN_ret)
  (focus (intro q hq; simp only [aret, arets, St.get, lk, cond] at hq; exact hq.symm))
  (focus (intro q hq; simp only [keepL, memb, cond] at hq; exact hq.symm))
  (try refine ⟨?_, rfl⟩)
  (try with_reducible rfl)
  rw [w1 (y * 12) (by omega) (by omega), w1 (y * 12 + m) (by omega) (by omega), w1 ((y * 12 + m) * 31) (by omega) (by omega), w1 ((y * 12 + m) * 31 + d) (by omega) (by omega), w1 (((y * 12 + m) * 31 + d) * 24) (by omega) (by omega), w1 (((y * 12 + m) * 31 + d) * 24 + h) (by omega) (by omega), w1 ((((y * 12 + m) * 31 + d) * 24 + h) * 60) (by omega) (by omega), w1 ((((y * 12 + m) * 31 + d) * 24 + h) * 60 + mi) (by omega) (by omega), w1 (((((y * 12 + m) * 31 + d) * 24 + h) * 60 + mi) * 60) (by omega) (by omega), w1 (((((y * 12 + m) * 31 + d) * 24 + h) * 60 + mi) * 60 + s) (by omega) (by omega)]
  rfl
theorem order_con (y m d h mi s z y' m' d' h' mi' s' z' : Int) : Pu Try.prog 4 [stD y m d h mi s z, stD y' m' d' h' mi' s' z'] (.bool true) := by
  have hA := rright_con y m d h mi s z
  have hB := rright_con y' m' d' h' mi' s' z
  have sA := seconds_con y m d h mi s z
  have sB := seconds_con y' m' d' h' mi' s' z
  refine order_o (by simp) ?_
  simp only [numb, List.map_cons, List.map_nil, Nat.zero_add]
  repeat' (first
    | with_reducible refine WC_seq ?_
    | with_reducible refine WC_region ?_
    | with_reducible refine WC_skip ?_
    | with_reducible refine WC_ret ?_
    | with_reducible refine WC_exit ?_
    | with_reducible refine WC_block ?_
    | with_reducible refine thenQ_n ?_
    | with_reducible refine thenQ_r ?_
    | with_reducible refine thenQ_e ?_
    | with_reducible refine blockQ_n ?_
    | with_reducible refine blockQ_r ?_
    | with_reducible refine blockQ_e ?_
    | with_reducible refine blockQ_o rfl ?_
    | with_reducible refine WRs_nil ?_
    | ((with_reducible apply RUN_bool); (focus (intro q hq; simp only [go_sem, Nat.reduceAdd, Nat.reduceSub, Nat.reduceMul] at hq; exact hq.symm)); (focus (intro b q hq; simp only [St.setv, lset, cond, ltb] at hq; exact hq.symm)); intro bb hb; (first | (with_reducible have h9 : true = bb := hb; clear hb; subst h9) | (with_reducible have h9 : false = bb := hb; clear hb; subst h9) | skip))
    | ((with_reducible apply WRs_nil2); (focus (intro q hq; simp only [nilS, isSl, isConstNil, St.ev, St.get, lk, cond, Bool.and_true, Bool.and_self, tk_2, tk_23, tk_3, tk_4] at hq; exact hq.symm)); (focus (intro b q hq; simp only [St.setv, lset, cond, ltb] at hq; exact hq.symm)); intro bb hb; (first | (with_reducible have h9 : true = bb := hb; clear hb; subst h9) | (with_reducible have h9 : false = bb := hb; clear hb; subst h9) | skip))
    | ((with_reducible apply RUN_n); (focus (intro q hq; simp only [go_sem, Nat.reduceAdd, Nat.reduceSub, Nat.reduceMul] at hq; exact hq.symm)))
    | ((with_reducible apply RUN_gt); (focus (intro q hq; simp only [St.get, lk, cond] at hq; exact hq.symm)))
    | ((with_reducible apply WC_draw mx); (focus (intro q hq; simp only [flZ, ltb, go_sem] at hq; exact hq.symm)); (focus (intro q hq; simp only [objNames, List.map_cons, List.map_nil, List.filter_cons, List.filter_nil, isObj, lk, cond, if_true, if_false, Bool.false_eq_true] at hq; exact hq.symm)); (focus rfl); (focus (intro q hq; simp only [St.drop, dropL, flHas, cond] at hq; exact hq.symm)))
    | with_reducible refine RUND_nil ?_
    | ((with_reducible apply RUND_bool); (focus (intro q hq; simp only [go_sem, Nat.reduceAdd, Nat.reduceSub, Nat.reduceMul] at hq; exact hq.symm)); (focus (intro b q hq; simp only [St.setv, lset, cond, ltb] at hq; exact hq.symm)); intro bb hb; (first | (with_reducible have h9 : true = bb := hb; clear hb; subst h9) | (with_reducible have h9 : false = bb := hb; clear hb; subst h9) | skip))
    | ((with_reducible apply RUND_n); (focus (intro q hq; simp only [go_sem, Nat.reduceAdd, Nat.reduceSub, Nat.reduceMul] at hq; exact hq.symm)))
    | ((with_reducible apply RUND_lbool); (focus (intro q hq; simp only [laOK, List.all_cons, List.all_nil, St.get, lk, cond, AV.refs, AV.refs.refsL, memb, List.append_nil, Bool.and_true, Bool.true_and, Bool.and_self] at hq; exact hq.symm)); (focus (intro q hq; simp only [go_sem, Nat.reduceAdd, Nat.reduceSub, Nat.reduceMul] at hq; exact hq.symm)); (focus (intro b q hq; simp only [St.setv, lset, cond, ltb] at hq; exact hq.symm)); intro bb hb; (first | (with_reducible have h9 : true = bb := hb; clear hb; subst h9) | (with_reducible have h9 : false = bb := hb; clear hb; subst h9) | skip))
    | ((with_reducible apply RUND_l); (focus (intro q hq; simp only [laOK, List.all_cons, List.all_nil, St.get, lk, cond, AV.refs, AV.refs.refsL, memb, List.append_nil, Bool.and_true, Bool.true_and, Bool.and_self] at hq; exact hq.symm)); (focus (intro q hq; simp only [go_sem, Nat.reduceAdd, Nat.reduceSub, Nat.reduceMul] at hq; exact hq.symm)))
    | ((with_reducible apply RUND_lm); (focus (intro q hq; simp only [laOK, List.all_cons, List.all_nil, St.get, lk, cond, AV.refs, AV.refs.refsL, memb, List.append_nil, Bool.and_true, Bool.true_and, Bool.and_self] at hq; exact hq.symm)); (focus (intro q hq; simp only [go_sem, Nat.reduceAdd, Nat.reduceSub, Nat.reduceMul] at hq; exact hq.symm)))
    | ((with_reducible apply RUND_gt); (focus (intro q hq; simp only [St.get, lk, cond] at hq; exact hq.symm)))
    | ((with_reducible apply RUND_gf); (focus (intro q hq; simp only [sameOn, laOK, List.all_cons, List.all_nil, St.get, lk, lset, cond, AV.refs, AV.refs.refsL, memb, List.append_nil, Bool.and_true, Bool.true_and, Bool.and_self, and_self, and_true, skipOK, eq_self, forall_const, implies_true, false_implies, Bool.false_and, Bool.and_false, Bool.false_eq_true] at hq; subst hq; trivial)); (focus (intro q hq; simp only [St.get, lk, cond] at hq; exact hq.symm)); (focus (intro q hq; simp only [St.setv, lset, cond, ltb] at hq; exact hq.symm)))
    | ((with_reducible apply RUND_gu); (focus (intro q hq; simp only [sameOn, laOK, List.all_cons, List.all_nil, St.get, lk, lset, cond, AV.refs, AV.refs.refsL, memb, List.append_nil, Bool.and_true, Bool.true_and, Bool.and_self, and_self, and_true, skipOK, eq_self, forall_const, implies_true, false_implies, Bool.false_and, Bool.and_false, Bool.false_eq_true] at hq; subst hq; trivial)); (focus (intro q hq; simp only [St.get, lk, cond] at hq; exact hq.symm)); (focus (intro q hq; simp only [St.setv, lset, cond, ltb] at hq; exact hq.symm)))
    | ((with_reducible apply RUND_gv); rotate_left; (focus (intro q hq; simp only [St.get, lk, cond] at hq; exact hq.symm)); (focus (intro q hq; simp only [St.setv, lset, cond, ltb] at hq; exact hq.symm)); rotate_left; rotate_left; (focus (intro q hq; simp only [sameOn, laOK, List.all_cons, List.all_nil, St.get, lk, lset, cond, AV.refs, AV.refs.refsL, memb, List.append_nil, Bool.and_true, Bool.true_and, Bool.and_self, and_self, and_true, skipOK, eq_self, forall_const, implies_true, false_implies, Bool.false_and, Bool.and_false, Bool.false_eq_true] at hq; subst hq; trivial)); intro e; (first | subst e | (simp only [Bool.not_eq_true', Bool.not_eq_false'] at e; subst e)); rotate_left; intro e; simp only [Bool.not_true, Bool.not_false, Bool.not_eq_true', Bool.not_eq_false'] at e; subst e)
    | ((with_reducible apply RUND_ch); (focus (intro q hq; simp only [go_sem, Nat.reduceAdd, Nat.reduceSub, Nat.reduceMul] at hq; exact hq.symm)); (focus (intro q hq; simp only [sameOn, laOK, List.all_cons, List.all_nil, St.get, lk, lset, cond, AV.refs, AV.refs.refsL, memb, List.append_nil, Bool.and_true, Bool.true_and, Bool.and_self, and_self, and_true] at hq; subst hq; trivial)); (focus (intro e; first | (cases e; done) | rfl)))
    | ((with_reducible apply RUN_gf); (focus (intro q hq; simp only [St.get, lk, cond] at hq; exact hq.symm)); (focus (intro q hq; simp only [St.setv, lset, cond, ltb] at hq; exact hq.symm)))
    | ((with_reducible apply RUN_gu); (focus (intro q hq; simp only [St.get, lk, cond] at hq; exact hq.symm)); (focus (intro q hq; simp only [St.setv, lset, cond, ltb] at hq; exact hq.symm)))
    | ((with_reducible apply RUN_gv); (focus (intro q hq; simp only [St.get, lk, cond] at hq; exact hq.symm)); (focus (intro q hq; simp only [St.setv, lset, cond, ltb] at hq; exact hq.symm)); intro e; (first | subst e | (simp only [Bool.not_eq_true', Bool.not_eq_false'] at e; subst e)); rotate_left; intro e; simp only [Bool.not_true, Bool.not_false, Bool.not_eq_true', Bool.not_eq_false'] at e; subst e)
    | ((with_reducible apply RUN_ct); (focus (intro q hq; simp only [St.ev, St.get, lk, cond, ofConst] at hq; exact hq.symm)))
    | ((with_reducible apply RUN_cf); (focus (intro q hq; simp only [St.ev, St.get, lk, cond, ofConst] at hq; exact hq.symm)))
    | ((with_reducible apply RUN_phi); (focus (intro q hq; simp only [St.ev, St.get, lk, cond, ofConst] at hq; exact hq.symm)); (focus (intro q hq; simp only [runP, go_sem, Nat.reduceAdd, Nat.reduceSub, Nat.reduceMul] at hq; exact hq.symm)); (focus (intro q hq; simp only [phiS, phiAV, phiD, dstsOf, app, lset, St.get, lk, cond, decide_true, if_true] at hq; exact hq.symm)))
    | ((with_reducible apply RUN_phi2); (focus (intro q hq; simp only [St.ev, St.get, lk, cond, ofConst] at hq; exact hq.symm)); (focus (intro q hq; simp only [runP, go_sem, Nat.reduceAdd, Nat.reduceSub, Nat.reduceMul] at hq; exact hq.symm)); (focus (intro q hq; simp only [runP, go_sem, Nat.reduceAdd, Nat.reduceSub, Nat.reduceMul] at hq; exact hq.symm)); (focus (intro q hq; simp only [phiS, phiAV, phiD, dstsOf, app, lset, St.get, lk, cond, decide_true, if_true] at hq; exact hq.symm)))
    | ((with_reducible apply RUN_pcall); (focus (intro q hq; simp only [St.ev, St.get, lk, cond] at hq; exact hq.symm)); (focus (intro q hq; simp only [toDs, List.map, List.append, Array.toList, St.ev, St.get, lk, cond, ofConst, AV.toD, AV.toD.toDL, HAppend.hAppend, Append.append] at hq; exact hq.symm)); (focus (exact awake_con)); (focus (intro q hq; simp only [St.setv, lset, cond, ltb] at hq; exact hq.symm)))
    | ((with_reducible apply RUND_pcall); (focus (intro q hq; simp only [St.ev, St.get, lk, cond] at hq; exact hq.symm)); (focus (intro q hq; simp only [toDs, List.map, List.append, Array.toList, St.ev, St.get, lk, cond, ofConst, AV.toD, AV.toD.toDL, HAppend.hAppend, Append.append] at hq; exact hq.symm)); (focus (exact awake_con)); (focus (intro q hq; simp only [St.setv, lset, cond, ltb] at hq; exact hq.symm)); (focus (intro q hq; simp only [sameOn, laOK, List.all_cons, List.all_nil, St.get, lk, lset, cond, AV.refs, AV.refs.refsL, memb, List.append_nil, Bool.and_true, Bool.true_and, Bool.and_self, and_self, and_true] at hq; subst hq; trivial)))
    | ((with_reducible apply RUN_pcallB); (focus (intro q hq; simp only [St.ev, St.get, lk, cond] at hq; exact hq.symm)); (focus (intro q hq; simp only [toDs, List.map, List.append, Array.toList, St.ev, St.get, lk, cond, ofConst, AV.toD, AV.toD.toDL, HAppend.hAppend, Append.append] at hq; exact hq.symm)); (focus (exact hA)); (focus (intro b q hq; simp only [St.setv, lset, cond, ltb] at hq; exact hq.symm)); intro bb hb; (first | (with_reducible have h9 : true = bb := hb; clear hb; subst h9) | (with_reducible have h9 : false = bb := hb; clear hb; subst h9) | skip))
    | ((with_reducible apply RUND_pcallB); (focus (intro q hq; simp only [St.ev, St.get, lk, cond] at hq; exact hq.symm)); (focus (intro q hq; simp only [toDs, List.map, List.append, Array.toList, St.ev, St.get, lk, cond, ofConst, AV.toD, AV.toD.toDL, HAppend.hAppend, Append.append] at hq; exact hq.symm)); (focus (exact hA)); (focus (intro b q hq; simp only [St.setv, lset, cond, ltb] at hq; exact hq.symm)); (focus (intro b q hq; simp only [sameOn, laOK, List.all_cons, List.all_nil, St.get, lk, lset, cond, AV.refs, AV.refs.refsL, memb, List.append_nil, Bool.and_true, Bool.true_and, Bool.and_self, and_self, and_true] at hq; subst hq; trivial)); intro bb hb; (first | (with_reducible have h9 : true = bb := hb; clear hb; subst h9) | (with_reducible have h9 : false = bb := hb; clear hb; subst h9) | skip))
    | ((with_reducible apply RUN_pcall); (focus (intro q hq; simp only [St.ev, St.get, lk, cond] at hq; exact hq.symm)); (focus (intro q hq; simp only [toDs, List.map, List.append, Array.toList, St.ev, St.get, lk, cond, ofConst, AV.toD, AV.toD.toDL, HAppend.hAppend, Append.append] at hq; exact hq.symm)); (focus (exact hA)); (focus (intro q hq; simp only [St.setv, lset, cond, ltb] at hq; exact hq.symm)))
    | ((with_reducible apply RUND_pcall); (focus (intro q hq; simp only [St.ev, St.get, lk, cond] at hq; exact hq.symm)); (focus (intro q hq; simp only [toDs, List.map, List.append, Array.toList, St.ev, St.get, lk, cond, ofConst, AV.toD, AV.toD.toDL, HAppend.hAppend, Append.append] at hq; exact hq.symm)); (focus (exact hA)); (focus (intro q hq; simp only [St.setv, lset, cond, ltb] at hq; exact hq.symm)); (focus (intro q hq; simp only [sameOn, laOK, List.all_cons, List.all_nil, St.get, lk, lset, cond, AV.refs, AV.refs.refsL, memb, List.append_nil, Bool.and_true, Bool.true_and, Bool.and_self, and_self, and_true] at hq; subst hq; trivial)))
    | ((with_reducible apply RUN_pcallB); (focus (intro q hq; simp only [St.ev, St.get, lk, cond] at hq; exact hq.symm)); (focus (intro q hq; simp only [toDs, List.map, List.append, Array.toList, St.ev, St.get, lk, cond, ofConst, AV.toD, AV.toD.toDL, HAppend.hAppend, Append.append] at hq; exact hq.symm)); (focus (exact hB)); (focus (intro b q hq; simp only [St.setv, lset, cond, ltb] at hq; exact hq.symm)); intro bb hb; (first | (with_reducible have h9 : true = bb := hb; clear hb; subst h9) | (with_reducible have h9 : false = bb := hb; clear hb; subst h9) | skip))
    | ((with_reducible apply RUND_pcallB); (focus (intro q hq; simp only [St.ev, St.get, lk, cond] at hq; exact hq.symm)); (focus (intro q hq; simp only [toDs, List.map, List.append, Array.toList, St.ev, St.get, lk, cond, ofConst, AV.toD, AV.toD.toDL, HAppend.hAppend, Append.append] at hq; exact hq.symm)); (focus (exact hB)); (focus (intro b q hq; simp only [St.setv, lset, cond, ltb] at hq; exact hq.symm)); (focus (intro b q hq; simp only [sameOn, laOK, List.all_cons, List.all_nil, St.get, lk, lset, cond, AV.refs, AV.refs.refsL, memb, List.append_nil, Bool.and_true, Bool.true_and, Bool.and_self, and_self, and_true] at hq; subst hq; trivial)); intro bb hb; (first | (with_reducible have h9 : true = bb := hb; clear hb; subst h9) | (with_reducible have h9 : false = bb := hb; clear hb; subst h9) | skip))
    | ((with_reducible apply RUN_pcall); (focus (intro q hq; simp only [St.ev, St.get, lk, cond] at hq; exact hq.symm)); (focus (intro q hq; simp only [toDs, List.map, List.append, Array.toList, St.ev, St.get, lk, cond, ofConst, AV.toD, AV.toD.toDL, HAppend.hAppend, Append.append] at hq; exact hq.symm)); (focus (exact hB)); (focus (intro q hq; simp only [St.setv, lset, cond, ltb] at hq; exact hq.symm)))
    | ((with_reducible apply RUND_pcall); (focus (intro q hq; simp only [St.ev, St.get, lk, cond] at hq; exact hq.symm)); (focus (intro q hq; simp only [toDs, List.map, List.append, Array.toList, St.ev, St.get, lk, cond, ofConst, AV.toD, AV.toD.toDL, HAppend.hAppend, Append.append] at hq; exact hq.symm)); (focus (exact hB)); (focus (intro q hq; simp only [St.setv, lset, cond, ltb] at hq; exact hq.symm)); (focus (intro q hq; simp only [sameOn, laOK, List.all_cons, List.all_nil, St.get, lk, lset, cond, AV.refs, AV.refs.refsL, memb, List.append_nil, Bool.and_true, Bool.true_and, Bool.and_self, and_self, and_true] at hq; subst hq; trivial)))
    | ((with_reducible apply RUN_cv); (focus (intro q hq; simp only [St.ev, St.get, lk, cond, ofConst] at hq; exact hq.symm)); all_goals (intro e; first | cases e | (simp only [Bool.not_eq_true', Bool.not_eq_false'] at e; subst e) | skip)))
  · skip
    (with_reducible apply RUN_ret)
    (focus (intro q hq; simp only [aret, arets, St.get, lk, cond] at hq; exact hq.symm))
    (focus (intro q hq; simp only [keepL, memb, cond] at hq; exact hq.symm))
    (try refine ⟨?_, rfl⟩)
    (try with_reducible rfl)
  · skip
    (with_reducible apply RUN_ret)
    (focus (intro q hq; simp only [aret, arets, St.get, lk, cond] at hq; exact hq.symm))
    (focus (intro q hq; simp only [keepL, memb, cond] at hq; exact hq.symm))
    (try refine ⟨?_, rfl⟩)
    (try with_reducible rfl)
  · rename_i r
    have r' := hb
    have hk := okey_con y m d h mi s z r
    have hk' := okey_con y' m' d' h' mi' s' z r'
    have ho := st.order r r'
    simp only [secs, r, r', if_true] at sA sB
    repeat' (first
      | with_reducible refine WC_seq ?_
      | with_reducible refine WC_region ?_
      | with_reducible refine WC_skip ?_
      | with_reducible refine WC_ret ?_
      | with_reducible refine WC_exit ?_
      | with_reducible refine WC_block ?_
      | with_reducible refine thenQ_n ?_
      | with_reducible refine thenQ_r ?_
      | with_reducible refine thenQ_e ?_
      | with_reducible refine blockQ_n ?_
      | with_reducible refine blockQ_r ?_
      | with_reducible refine blockQ_e ?_
      | with_reducible refine blockQ_o rfl ?_
      | with_reducible refine WRs_nil ?_
      | ((with_reducible apply RUN_bool); (focus (intro q hq; simp only [go_sem, Nat.reduceAdd, Nat.reduceSub, Nat.reduceMul] at hq; exact hq.symm)); (focus (intro b q hq; simp only [St.setv, lset, cond, ltb] at hq; exact hq.symm)); intro bb hb; (first | (with_reducible have h9 : true = bb := hb; clear hb; subst h9) | (with_reducible have h9 : false = bb := hb; clear hb; subst h9) | skip))
      | ((with_reducible apply WRs_nil2); (focus (intro q hq; simp only [nilS, isSl, isConstNil, St.ev, St.get, lk, cond, Bool.and_true, Bool.and_self, tk_2, tk_23, tk_3, tk_4] at hq; exact hq.symm)); (focus (intro b q hq; simp only [St.setv, lset, cond, ltb] at hq; exact hq.symm)); intro bb hb; (first | (with_reducible have h9 : true = bb := hb; clear hb; subst h9) | (with_reducible have h9 : false = bb := hb; clear hb; subst h9) | skip))
      | ((with_reducible apply RUN_n); (focus (intro q hq; simp only [go_sem, Nat.reduceAdd, Nat.reduceSub, Nat.reduceMul] at hq; exact hq.symm)))
      | ((with_reducible apply RUN_gt); (focus (intro q hq; simp only [St.get, lk, cond] at hq; exact hq.symm)))
      | ((with_reducible apply WC_draw mx); (focus (intro q hq; simp only [flZ, ltb, go_sem] at hq; exact hq.symm)); (focus (intro q hq; simp only [objNames, List.map_cons, List.map_nil, List.filter_cons, List.filter_nil, isObj, lk, cond, if_true, if_false, Bool.false_eq_true] at hq; exact hq.symm)); (focus rfl); (focus (intro q hq; simp only [St.drop, dropL, flHas, cond] at hq; exact hq.symm)))
      | with_reducible refine RUND_nil ?_
      | ((with_reducible apply RUND_bool); (focus (intro q hq; simp only [go_sem, Nat.reduceAdd, Nat.reduceSub, Nat.reduceMul] at hq; exact hq.symm)); (focus (intro b q hq; simp only [St.setv, lset, cond, ltb] at hq; exact hq.symm)); intro bb hb; (first | (with_reducible have h9 : true = bb := hb; clear hb; subst h9) | (with_reducible have h9 : false = bb := hb; clear hb; subst h9) | skip))
      | ((with_reducible apply RUND_n); (focus (intro q hq; simp only [go_sem, Nat.reduceAdd, Nat.reduceSub, Nat.reduceMul] at hq; exact hq.symm)))
      | ((with_reducible apply RUND_lbool); (focus (intro q hq; simp only [laOK, List.all_cons, List.all_nil, St.get, lk, cond, AV.refs, AV.refs.refsL, memb, List.append_nil, Bool.and_true, Bool.true_and, Bool.and_self] at hq; exact hq.symm)); (focus (intro q hq; simp only [go_sem, Nat.reduceAdd, Nat.reduceSub, Nat.reduceMul] at hq; exact hq.symm)); (focus (intro b q hq; simp only [St.setv, lset, cond, ltb] at hq; exact hq.symm)); intro bb hb; (first | (with_reducible have h9 : true = bb := hb; clear hb; subst h9) | (with_reducible have h9 : false = bb := hb; clear hb; subst h9) | skip))
      | ((with_reducible apply RUND_l); (focus (intro q hq; simp only [laOK, List.all_cons, List.all_nil, St.get, lk, cond, AV.refs, AV.refs.refsL, memb, List.append_nil, Bool.and_true, Bool.true_and, Bool.and_self] at hq; exact hq.symm)); (focus (intro q hq; simp only [go_sem, Nat.reduceAdd, Nat.reduceSub, Nat.reduceMul] at hq; exact hq.symm)))
      | ((with_reducible apply RUND_lm); (focus (intro q hq; simp only [laOK, List.all_cons, List.all_nil, St.get, lk, cond, AV.refs, AV.refs.refsL, memb, List.append_nil, Bool.and_true, Bool.true_and, Bool.and_self] at hq; exact hq.symm)); (focus (intro q hq; simp only [go_sem, Nat.reduceAdd, Nat.reduceSub, Nat.reduceMul] at hq; exact hq.symm)))
      | ((with_reducible apply RUND_gt); (focus (intro q hq; simp only [St.get, lk, cond] at hq; exact hq.symm)))
      | ((with_reducible apply RUND_gf); (focus (intro q hq; simp only [sameOn, laOK, List.all_cons, List.all_nil, St.get, lk, lset, cond, AV.refs, AV.refs.refsL, memb, List.append_nil, Bool.and_true, Bool.true_and, Bool.and_self, and_self, and_true, skipOK, eq_self, forall_const, implies_true, false_implies, Bool.false_and, Bool.and_false, Bool.false_eq_true] at hq; subst hq; trivial)); (focus (intro q hq; simp only [St.get, lk, cond] at hq; exact hq.symm)); (focus (intro q hq; simp only [St.setv, lset, cond, ltb] at hq; exact hq.symm)))
      | ((with_reducible apply RUND_gu); (focus (intro q hq; simp only [sameOn, laOK, List.all_cons, List.all_nil, St.get, lk, lset, cond, AV.refs, AV.refs.refsL, memb, List.append_nil, Bool.and_true, Bool.true_and, Bool.and_self, and_self, and_true, skipOK, eq_self, forall_const, implies_true, false_implies, Bool.false_and, Bool.and_false, Bool.false_eq_true] at hq; subst hq; trivial)); (focus (intro q hq; simp only [St.get, lk, cond] at hq; exact hq.symm)); (focus (intro q hq; simp only [St.setv, lset, cond, ltb] at hq; exact hq.symm)))
      | ((with_reducible apply RUND_gv); rotate_left; (focus (intro q hq; simp only [St.get, lk, cond] at hq; exact hq.symm)); (focus (intro q hq; simp only [St.setv, lset, cond, ltb] at hq; exact hq.symm)); rotate_left; rotate_left; (focus (intro q hq; simp only [sameOn, laOK, List.all_cons, List.all_nil, St.get, lk, lset, cond, AV.refs, AV.refs.refsL, memb, List.append_nil, Bool.and_true, Bool.true_and, Bool.and_self, and_self, and_true, skipOK, eq_self, forall_const, implies_true, false_implies, Bool.false_and, Bool.and_false, Bool.false_eq_true] at hq; subst hq; trivial)); intro e; (first | subst e | (simp only [Bool.not_eq_true', Bool.not_eq_false'] at e; subst e)); rotate_left; intro e; simp only [Bool.not_true, Bool.not_false, Bool.not_eq_true', Bool.not_eq_false'] at e; subst e)
      | ((with_reducible apply RUND_ch); (focus (intro q hq; simp only [go_sem, Nat.reduceAdd, Nat.reduceSub, Nat.reduceMul] at hq; exact hq.symm)); (focus (intro q hq; simp only [sameOn, laOK, List.all_cons, List.all_nil, St.get, lk, lset, cond, AV.refs, AV.refs.refsL, memb, List.append_nil, Bool.and_true, Bool.true_and, Bool.and_self, and_self, and_true] at hq; subst hq; trivial)); (focus (intro e; first | (cases e; done) | rfl)))
      | ((with_reducible apply RUN_gf); (focus (intro q hq; simp only [St.get, lk, cond] at hq; exact hq.symm)); (focus (intro q hq; simp only [St.setv, lset, cond, ltb] at hq; exact hq.symm)))
      | ((with_reducible apply RUN_gu); (focus (intro q hq; simp only [St.get, lk, cond] at hq; exact hq.symm)); (focus (intro q hq; simp only [St.setv, lset, cond, ltb] at hq; exact hq.symm)))
      | ((with_reducible apply RUN_gv); (focus (intro q hq; simp only [St.get, lk, cond] at hq; exact hq.symm)); (focus (intro q hq; simp only [St.setv, lset, cond, ltb] at hq; exact hq.symm)); intro e; (first | subst e | (simp only [Bool.not_eq_true', Bool.not_eq_false'] at e; subst e)); rotate_left; intro e; simp only [Bool.not_true, Bool.not_false, Bool.not_eq_true', Bool.not_eq_false'] at e; subst e)
      | ((with_reducible apply RUN_ct); (focus (intro q hq; simp only [St.ev, St.get, lk, cond, ofConst] at hq; exact hq.symm)))
      | ((with_reducible apply RUN_cf); (focus (intro q hq; simp only [St.ev, St.get, lk, cond, ofConst] at hq; exact hq.symm)))
      | ((with_reducible apply RUN_phi); (focus (intro q hq; simp only [St.ev, St.get, lk, cond, ofConst] at hq; exact hq.symm)); (focus (intro q hq; simp only [runP, go_sem, Nat.reduceAdd, Nat.reduceSub, Nat.reduceMul] at hq; exact hq.symm)); (focus (intro q hq; simp only [phiS, phiAV, phiD, dstsOf, app, lset, St.get, lk, cond, decide_true, if_true] at hq; exact hq.symm)))
      | ((with_reducible apply RUN_phi2); (focus (intro q hq; simp only [St.ev, St.get, lk, cond, ofConst] at hq; exact hq.symm)); (focus (intro q hq; simp only [runP, go_sem, Nat.reduceAdd, Nat.reduceSub, Nat.reduceMul] at hq; exact hq.symm)); (focus (intro q hq; simp only [runP, go_sem, Nat.reduceAdd, Nat.reduceSub, Nat.reduceMul] at hq; exact hq.symm)); (focus (intro q hq; simp only [phiS, phiAV, phiD, dstsOf, app, lset, St.get, lk, cond, decide_true, if_true] at hq; exact hq.symm)))
      | ((with_reducible apply RUN_pcall); (focus (intro q hq; simp only [St.ev, St.get, lk, cond] at hq; exact hq.symm)); (focus (intro q hq; simp only [toDs, List.map, List.append, Array.toList, St.ev, St.get, lk, cond, ofConst, AV.toD, AV.toD.toDL, HAppend.hAppend, Append.append] at hq; exact hq.symm)); (focus (exact hk)); (focus (intro q hq; simp only [St.setv, lset, cond, ltb] at hq; exact hq.symm)))
      | ((with_reducible apply RUND_pcall); (focus (intro q hq; simp only [St.ev, St.get, lk, cond] at hq; exact hq.symm)); (focus (intro q hq; simp only [toDs, List.map, List.append, Array.toList, St.ev, St.get, lk, cond, ofConst, AV.toD, AV.toD.toDL, HAppend.hAppend, Append.append] at hq; exact hq.symm)); (focus (exact hk)); (focus (intro q hq; simp only [St.setv, lset, cond, ltb] at hq; exact hq.symm)); (focus (intro q hq; simp only [sameOn, laOK, List.all_cons, List.all_nil, St.get, lk, lset, cond, AV.refs, AV.refs.refsL, memb, List.append_nil, Bool.and_true, Bool.true_and, Bool.and_self, and_self, and_true] at hq; subst hq; trivial)))
      | ((with_reducible apply RUN_pcall); (focus (intro q hq; simp only [St.ev, St.get, lk, cond] at hq; exact hq.symm)); (focus (intro q hq; simp only [toDs, List.map, List.append, Array.toList, St.ev, St.get, lk, cond, ofConst, AV.toD, AV.toD.toDL, HAppend.hAppend, Append.append] at hq; exact hq.symm)); (focus (exact hk')); (focus (intro q hq; simp only [St.setv, lset, cond, ltb] at hq; exact hq.symm)))
      | ((with_reducible apply RUND_pcall); (focus (intro q hq; simp only [St.ev, St.get, lk, cond] at hq; exact hq.symm)); (focus (intro q hq; simp only [toDs, List.map, List.append, Array.toList, St.ev, St.get, lk, cond, ofConst, AV.toD, AV.toD.toDL, HAppend.hAppend, Append.append] at hq; exact hq.symm)); (focus (exact hk')); (focus (intro q hq; simp only [St.setv, lset, cond, ltb] at hq; exact hq.symm)); (focus (intro q hq; simp only [sameOn, laOK, List.all_cons, List.all_nil, St.get, lk, lset, cond, AV.refs, AV.refs.refsL, memb, List.append_nil, Bool.and_true, Bool.true_and, Bool.and_self, and_self, and_true] at hq; subst hq; trivial)))
      | ((with_reducible apply RUN_pcall); (focus (intro q hq; simp only [St.ev, St.get, lk, cond] at hq; exact hq.symm)); (focus (intro q hq; simp only [toDs, List.map, List.append, Array.toList, St.ev, St.get, lk, cond, ofConst, AV.toD, AV.toD.toDL, HAppend.hAppend, Append.append] at hq; exact hq.symm)); (focus (exact sA)); (focus (intro q hq; simp only [St.setv, lset, cond, ltb] at hq; exact hq.symm)))
      | ((with_reducible apply RUND_pcall); (focus (intro q hq; simp only [St.ev, St.get, lk, cond] at hq; exact hq.symm)); (focus (intro q hq; simp only [toDs, List.map, List.append, Array.toList, St.ev, St.get, lk, cond, ofConst, AV.toD, AV.toD.toDL, HAppend.hAppend, Append.append] at hq; exact hq.symm)); (focus (exact sA)); (focus (intro q hq; simp only [St.setv, lset, cond, ltb] at hq; exact hq.symm)); (focus (intro q hq; simp only [sameOn, laOK, List.all_cons, List.all_nil, St.get, lk, lset, cond, AV.refs, AV.refs.refsL, memb, List.append_nil, Bool.and_true, Bool.true_and, Bool.and_self, and_self, and_true] at hq; subst hq; trivial)))
      | ((with_reducible apply RUN_pcall); (focus (intro q hq; simp only [St.ev, St.get, lk, cond] at hq; exact hq.symm)); (focus (intro q hq; simp only [toDs, List.map, List.append, Array.toList, St.ev, St.get, lk, cond, ofConst, AV.toD, AV.toD.toDL, HAppend.hAppend, Append.append] at hq; exact hq.symm)); (focus (exact sB)); (focus (intro q hq; simp only [St.setv, lset, cond, ltb] at hq; exact hq.symm)))
      | ((with_reducible apply RUND_pcall); (focus (intro q hq; simp only [St.ev, St.get, lk, cond] at hq; exact hq.symm)); (focus (intro q hq; simp only [toDs, List.map, List.append, Array.toList, St.ev, St.get, lk, cond, ofConst, AV.toD, AV.toD.toDL, HAppend.hAppend, Append.append] at hq; exact hq.symm)); (focus (exact sB)); (focus (intro q hq; simp only [St.setv, lset, cond, ltb] at hq; exact hq.symm)); (focus (intro q hq; simp only [sameOn, laOK, List.all_cons, List.all_nil, St.get, lk, lset, cond, AV.refs, AV.refs.refsL, memb, List.append_nil, Bool.and_true, Bool.true_and, Bool.and_self, and_self, and_true] at hq; subst hq; trivial)))
      | ((with_reducible apply RUN_cv); (focus (intro q hq; simp only [St.ev, St.get, lk, cond, ofConst] at hq; exact hq.symm)); all_goals (intro e; first | cases e | (simp only [Bool.not_eq_true', Bool.not_eq_false'] at e; subst e) | skip)))
    · rename_i b1 h1 h2
      exfalso
      have e : decide (key y m d h mi s < key y' m' d' h' mi' s') = decide (secs0 y m d h mi s z < secs0 y' m' d' h' mi' s' z) := decide_eq_decide.2 ho.1
      rw [← h1, ← h2, e] at hb
      simp at hb
    · rename_i b1 h1 b2 h2 h3 b3 h4 b4 h5
      (with_reducible apply RUN_ret)
      (focus (intro q hq; simp only [aret, arets, St.get, lk, cond] at hq; exact hq.symm))
      (focus (intro q hq; simp only [keepL, memb, cond] at hq; exact hq.symm))
      (try refine ⟨?_, rfl⟩)
      (try with_reducible rfl)
      have e : (y == y' && (m == m' && (d == d' && (h == h' && (mi == mi' && (s == s' && z == z)))))) = (secs0 y m d h mi s z == secs0 y' m' d' h' mi' s' z) := by
        rw [Bool.eq_iff_iff]
        simp only [Bool.and_eq_true, beq_iff_eq, and_true]
        exact ho.2
      rw [← hb, ← h4, ← h5, e]
      simp
end Go.Proofs.Ytdeegjhnomdepaa
