import Derived.Test.YthmiekppdhmbiaaC24T1
set_option linter.unusedVariables false
set_option linter.unusedSimpArgs false
namespace Go.Proofs.Ythmiekppdhmbiaa
open Go.Wl
attribute [local irreducible] WRs WDs WC
attribute [local go_sem] Value.cells List.toList_toArray aappend apSrc abuildS abuildS.go List.all_cons List.all_nil St.untag AV.untag AV.untag.untagL Ob.untag tmMap hpMap aopS aop ob St.setv St.ev St.get lk lset cond ltb ofConst ofConst.ofConst0 ank apick afield aload AV.part AV.aggOf afieldV astore AV.cells? AV.one D.one splice aext aun alen AV.list aconv acv abuiltin AV.toD AV.toD.toDL List.map Option.map abin aint ashift astr isConstNil nilOf aindex2 aindexV2 aslice2 asliceL2 ibnd2 aminmax List.take List.drop List.append Nat.zero_add Nat.add_zero List.nil_append List.cons_append List.length_cons List.length_nil List.getElem?_cons_zero List.getElem?_cons_succ List.all_cons List.all_nil Bool.and_true Bool.true_and if_true Bool.not_true Bool.not_false Bool.false_or Bool.or_false St.nmOf freshC freshN anewN abox aalloc anew tmHas hpHas ldel Ob.has AV.has AV.has.hasL unbytes_u8 wd_int cl_int wd_bool cl_bool wd_str cl_str wd_nilp cl_nilp wd_nilfunc cl_nilfunc wd_nilif cl_nilif wd_list cl_list wd_cptr cl_cptr wd_iface cl_iface wd_func cl_func wd_agg cl_agg Int.toNat_natCast Int.natCast_nonneg true_and and_true decide_true decide_false Bool.cond_self Bool.false_eq_true if_false aopD aval acvP abval ag_22 ag_23 ag_25 ag_26 ag_27 ag_29 ag_3 ag_4 ag_43 ag_46 ag_47 ag_49 ag_9 apd_23 apd_26 apd_27 apd_46 apd_47 arr_23 arr_26 arr_27 arr_30 arr_46 arr_47 cvB_3_22 cvB_47_9 cvK_3_22 cvK_47_9 el_23 el_26 el_27 el_30 el_46 el_47 fd_25_0 fd_25_1 fd_25_2 fd_25_3 fd_25_4 fd_25_5 fd_29_0 fd_29_1 fd_29_2 fd_29_3 fd_29_4 fd_43_0 fd_43_1 fd_49_0 fd_49_1 fd_49_2 fd_49_3 fd_49_4 fd_49_5 fd_49_6 fd_49_7 fd_49_8 fp_25 fp_29 fp_43 fp_49 isStr_23 isStr_26 isStr_27 isStr_30 isStr_46 isStr_47 tk_22 tk_23 tk_26 tk_27 tk_3 tk_30 tk_4 tk_46 tk_47 tk_9 zv_22 zv_25 zv_29 zv_43 zv_46 zv_49 zv_5 zv_9
theorem rhas_con (l : List (Nat × Nat)) (n top : Nat) (hl : l.length < 4294967296) : Pu Try.prog 35 [(.list (l.map rg)), (.int .u32 n), (.int .u32 top)] (.bool (hasF l n top)) := by
  refine rhas_o (by simp) ?_
  simp only [numb, List.map, Nat.zero_add]
  repeat' (first
    | with_reducible refine WC_seq ?_
    | with_reducible refine WC_region ?_
    | with_reducible refine WC_skip ?_
    | with_reducible refine WC_ret ?_
    | with_reducible refine WC_exit ?_
    | with_reducible refine WC_block ?_
    | with_reducible refine thenQ_n ?_
    | with_reducible refine thenQ_r ?_
    | with_reducible refine thenQ_e ?_
    | with_reducible refine blockQ_n ?_
    | with_reducible refine blockQ_r ?_
    | with_reducible refine blockQ_e ?_
    | with_reducible refine blockQ_o rfl ?_
    | with_reducible refine WRs_nil ?_
    | ((with_reducible apply RUN_bool); (focus (intro q hq; simp only [go_sem, Nat.reduceAdd, Nat.reduceSub, Nat.reduceMul] at hq; exact hq.symm)); (focus (intro b q hq; simp only [St.setv, lset, cond, ltb] at hq; exact hq.symm)); intro bb hb; (first | (with_reducible have h9 : true = bb := hb; clear hb; subst h9) | (with_reducible have h9 : false = bb := hb; clear hb; subst h9) | skip))
    | ((with_reducible apply WRs_nil2); (focus (intro q hq; simp only [nilS, isSl, isConstNil, St.ev, St.get, lk, cond, Bool.and_true, Bool.and_self, tk_22, tk_23, tk_26, tk_27, tk_3, tk_30, tk_4, tk_46, tk_47, tk_9] at hq; exact hq.symm)); (focus (intro b q hq; simp only [St.setv, lset, cond, ltb] at hq; exact hq.symm)); intro bb hb; (first | (with_reducible have h9 : true = bb := hb; clear hb; subst h9) | (with_reducible have h9 : false = bb := hb; clear hb; subst h9) | skip))
    | ((with_reducible apply RUN_n); (focus (intro q hq; simp only [go_sem, Nat.reduceAdd, Nat.reduceSub, Nat.reduceMul] at hq; exact hq.symm)))
    | ((with_reducible apply RUN_gt); (focus (intro q hq; simp only [St.get, lk, cond] at hq; exact hq.symm)))
    | ((with_reducible apply WC_draw mx); (focus (intro q hq; simp only [objNames, List.map_cons, List.map_nil, List.filter_cons, List.filter_nil, isObj, lk, cond, if_true, if_false, Bool.false_eq_true] at hq; exact hq.symm)); (focus rfl))
    | with_reducible refine RUND_nil ?_
    | ((with_reducible apply RUND_bool); (focus (intro q hq; simp only [go_sem, Nat.reduceAdd, Nat.reduceSub, Nat.reduceMul] at hq; exact hq.symm)); (focus (intro b q hq; simp only [St.setv, lset, cond, ltb] at hq; exact hq.symm)); intro bb hb; (first | (with_reducible have h9 : true = bb := hb; clear hb; subst h9) | (with_reducible have h9 : false = bb := hb; clear hb; subst h9) | skip))
    | ((with_reducible apply RUND_n); (focus (intro q hq; simp only [go_sem, Nat.reduceAdd, Nat.reduceSub, Nat.reduceMul] at hq; exact hq.symm)))
    | ((with_reducible apply RUND_lbool); (focus (intro q hq; simp only [laOK, List.all_cons, List.all_nil, St.get, lk, cond, AV.refs, AV.refs.refsL, memb, List.append_nil, Bool.and_true, Bool.true_and, Bool.and_self] at hq; exact hq.symm)); (focus (intro q hq; simp only [go_sem, Nat.reduceAdd, Nat.reduceSub, Nat.reduceMul] at hq; exact hq.symm)); (focus (intro b q hq; simp only [St.setv, lset, cond, ltb] at hq; exact hq.symm)); intro bb hb; (first | (with_reducible have h9 : true = bb := hb; clear hb; subst h9) | (with_reducible have h9 : false = bb := hb; clear hb; subst h9) | skip))
    | ((with_reducible apply RUND_l); (focus (intro q hq; simp only [laOK, List.all_cons, List.all_nil, St.get, lk, cond, AV.refs, AV.refs.refsL, memb, List.append_nil, Bool.and_true, Bool.true_and, Bool.and_self] at hq; exact hq.symm)); (focus (intro q hq; simp only [go_sem, Nat.reduceAdd, Nat.reduceSub, Nat.reduceMul] at hq; exact hq.symm)))
    | ((with_reducible apply RUND_lm); (focus (intro q hq; simp only [laOK, List.all_cons, List.all_nil, St.get, lk, cond, AV.refs, AV.refs.refsL, memb, List.append_nil, Bool.and_true, Bool.true_and, Bool.and_self] at hq; exact hq.symm)); (focus (intro q hq; simp only [go_sem, Nat.reduceAdd, Nat.reduceSub, Nat.reduceMul] at hq; exact hq.symm)))
    | ((with_reducible apply RUND_gt); (focus (intro q hq; simp only [St.get, lk, cond] at hq; exact hq.symm)))
    | ((with_reducible apply RUND_gf); (focus (intro q hq; simp only [sameOn, laOK, List.all_cons, List.all_nil, St.get, lk, lset, cond, AV.refs, AV.refs.refsL, memb, List.append_nil, Bool.and_true, Bool.true_and, Bool.and_self, and_self, and_true, skipOK, eq_self, forall_const, implies_true, false_implies, Bool.false_and, Bool.and_false, Bool.false_eq_true] at hq; subst hq; trivial)); (focus (intro q hq; simp only [St.get, lk, cond] at hq; exact hq.symm)); (focus (intro q hq; simp only [St.setv, lset, cond, ltb] at hq; exact hq.symm)))
    | ((with_reducible apply RUND_gu); (focus (intro q hq; simp only [sameOn, laOK, List.all_cons, List.all_nil, St.get, lk, lset, cond, AV.refs, AV.refs.refsL, memb, List.append_nil, Bool.and_true, Bool.true_and, Bool.and_self, and_self, and_true, skipOK, eq_self, forall_const, implies_true, false_implies, Bool.false_and, Bool.and_false, Bool.false_eq_true] at hq; subst hq; trivial)); (focus (intro q hq; simp only [St.get, lk, cond] at hq; exact hq.symm)); (focus (intro q hq; simp only [St.setv, lset, cond, ltb] at hq; exact hq.symm)))
    | ((with_reducible apply RUND_gv); rotate_left; (focus (intro q hq; simp only [St.get, lk, cond] at hq; exact hq.symm)); (focus (intro q hq; simp only [St.setv, lset, cond, ltb] at hq; exact hq.symm)); rotate_left; rotate_left; (focus (intro q hq; simp only [sameOn, laOK, List.all_cons, List.all_nil, St.get, lk, lset, cond, AV.refs, AV.refs.refsL, memb, List.append_nil, Bool.and_true, Bool.true_and, Bool.and_self, and_self, and_true, skipOK, eq_self, forall_const, implies_true, false_implies, Bool.false_and, Bool.and_false, Bool.false_eq_true] at hq; subst hq; trivial)); intro e; (first | subst e | (simp only [Bool.not_eq_true', Bool.not_eq_false'] at e; subst e)); rotate_left; intro e; simp only [Bool.not_true, Bool.not_false, Bool.not_eq_true', Bool.not_eq_false'] at e; subst e)
    | ((with_reducible apply RUND_ch); (focus (intro q hq; simp only [go_sem, Nat.reduceAdd, Nat.reduceSub, Nat.reduceMul] at hq; exact hq.symm)); (focus (intro q hq; simp only [sameOn, laOK, List.all_cons, List.all_nil, St.get, lk, lset, cond, AV.refs, AV.refs.refsL, memb, List.append_nil, Bool.and_true, Bool.true_and, Bool.and_self, and_self, and_true] at hq; subst hq; trivial)); (focus (intro e; first | (cases e; done) | rfl)))
    | ((with_reducible apply RUN_gf); (focus (intro q hq; simp only [St.get, lk, cond] at hq; exact hq.symm)); (focus (intro q hq; simp only [St.setv, lset, cond, ltb] at hq; exact hq.symm)))
    | ((with_reducible apply RUN_gu); (focus (intro q hq; simp only [St.get, lk, cond] at hq; exact hq.symm)); (focus (intro q hq; simp only [St.setv, lset, cond, ltb] at hq; exact hq.symm)))
    | ((with_reducible apply RUN_gv); (focus (intro q hq; simp only [St.get, lk, cond] at hq; exact hq.symm)); (focus (intro q hq; simp only [St.setv, lset, cond, ltb] at hq; exact hq.symm)); intro e; (first | subst e | (simp only [Bool.not_eq_true', Bool.not_eq_false'] at e; subst e)); rotate_left; intro e; simp only [Bool.not_true, Bool.not_false, Bool.not_eq_true', Bool.not_eq_false'] at e; subst e)
    | ((with_reducible apply RUN_ct); (focus (intro q hq; simp only [St.ev, St.get, lk, cond, ofConst] at hq; exact hq.symm)))
    | ((with_reducible apply RUN_cf); (focus (intro q hq; simp only [St.ev, St.get, lk, cond, ofConst] at hq; exact hq.symm)))
    | ((with_reducible apply RUN_phi); (focus (intro q hq; simp only [St.ev, St.get, lk, cond, ofConst] at hq; exact hq.symm)); (focus (intro q hq; simp only [runP, go_sem, Nat.reduceAdd, Nat.reduceSub, Nat.reduceMul] at hq; exact hq.symm)); (focus (intro q hq; simp only [phiS, phiAV, phiD, dstsOf, app, lset, St.get, lk, cond, decide_true, if_true] at hq; exact hq.symm)))
    | ((with_reducible apply RUN_phi2); (focus (intro q hq; simp only [St.ev, St.get, lk, cond, ofConst] at hq; exact hq.symm)); (focus (intro q hq; simp only [runP, go_sem, Nat.reduceAdd, Nat.reduceSub, Nat.reduceMul] at hq; exact hq.symm)); (focus (intro q hq; simp only [runP, go_sem, Nat.reduceAdd, Nat.reduceSub, Nat.reduceMul] at hq; exact hq.symm)); (focus (intro q hq; simp only [phiS, phiAV, phiD, dstsOf, app, lset, St.get, lk, cond, decide_true, if_true] at hq; exact hq.symm)))
    | ((with_reducible apply RUN_cv); (focus (intro q hq; simp only [St.ev, St.get, lk, cond, ofConst] at hq; exact hq.symm)); all_goals (intro e; first | cases e | (simp only [Bool.not_eq_true', Bool.not_eq_false'] at e; subst e) | skip)))
  refine WC_loopI (α := Nat) [0, 1, 2, 7] [] (fun i => i ≤ l.length ∧ (l.take i).any (inR n top) = false) (fun i => { n := 48, tm := [(0, .d (.list (l.map rg))), (1, .d (.int .u32 n)), (2, .d (.int .u32 top)), (7, .d (.int .i64 i))], hp := [] }) (fun i => l.length - i) rfl 0 (by intro q hq; simp only [St.keep, keepL, memb, cond, Bool.false_eq_true, if_false, if_true] at hq; subst hq; first | rfl | (simp only [if_true]; done) | (simp only [if_true]; rfl)) ?_ (fun i hI => ?_)
  · exact ⟨by simp, by simp⟩
  · obtain ⟨hI1, hI2⟩ := hI
    repeat' (first
      | with_reducible refine WC_seq ?_
      | with_reducible refine WC_region ?_
      | with_reducible refine WC_skip ?_
      | with_reducible refine WC_ret ?_
      | with_reducible refine WC_exit ?_
      | with_reducible refine WC_block ?_
      | with_reducible refine thenQ_n ?_
      | with_reducible refine thenQ_r ?_
      | with_reducible refine thenQ_e ?_
      | with_reducible refine blockQ_n ?_
      | with_reducible refine blockQ_r ?_
      | with_reducible refine blockQ_e ?_
      | with_reducible refine blockQ_o rfl ?_
      | with_reducible refine WRs_nil ?_
      | ((with_reducible apply RUN_bool); (focus (intro q hq; simp only [go_sem, Nat.reduceAdd, Nat.reduceSub, Nat.reduceMul] at hq; exact hq.symm)); (focus (intro b q hq; simp only [St.setv, lset, cond, ltb] at hq; exact hq.symm)); intro bb hb; (first | (with_reducible have h9 : true = bb := hb; clear hb; subst h9) | (with_reducible have h9 : false = bb := hb; clear hb; subst h9) | skip))
      | ((with_reducible apply WRs_nil2); (focus (intro q hq; simp only [nilS, isSl, isConstNil, St.ev, St.get, lk, cond, Bool.and_true, Bool.and_self, tk_22, tk_23, tk_26, tk_27, tk_3, tk_30, tk_4, tk_46, tk_47, tk_9] at hq; exact hq.symm)); (focus (intro b q hq; simp only [St.setv, lset, cond, ltb] at hq; exact hq.symm)); intro bb hb; (first | (with_reducible have h9 : true = bb := hb; clear hb; subst h9) | (with_reducible have h9 : false = bb := hb; clear hb; subst h9) | skip))
      | ((with_reducible apply RUN_n); (focus (intro q hq; simp only [go_sem, Nat.reduceAdd, Nat.reduceSub, Nat.reduceMul] at hq; exact hq.symm)))
      | ((with_reducible apply RUN_gt); (focus (intro q hq; simp only [St.get, lk, cond] at hq; exact hq.symm)))
      | ((with_reducible apply WC_draw mx); (focus (intro q hq; simp only [objNames, List.map_cons, List.map_nil, List.filter_cons, List.filter_nil, isObj, lk, cond, if_true, if_false, Bool.false_eq_true] at hq; exact hq.symm)); (focus rfl))
      | with_reducible refine RUND_nil ?_
      | ((with_reducible apply RUND_bool); (focus (intro q hq; simp only [go_sem, Nat.reduceAdd, Nat.reduceSub, Nat.reduceMul] at hq; exact hq.symm)); (focus (intro b q hq; simp only [St.setv, lset, cond, ltb] at hq; exact hq.symm)); intro bb hb; (first | (with_reducible have h9 : true = bb := hb; clear hb; subst h9) | (with_reducible have h9 : false = bb := hb; clear hb; subst h9) | skip))
      | ((with_reducible apply RUND_n); (focus (intro q hq; simp only [go_sem, Nat.reduceAdd, Nat.reduceSub, Nat.reduceMul] at hq; exact hq.symm)))
      | ((with_reducible apply RUND_lbool); (focus (intro q hq; simp only [laOK, List.all_cons, List.all_nil, St.get, lk, cond, AV.refs, AV.refs.refsL, memb, List.append_nil, Bool.and_true, Bool.true_and, Bool.and_self] at hq; exact hq.symm)); (focus (intro q hq; simp only [go_sem, Nat.reduceAdd, Nat.reduceSub, Nat.reduceMul] at hq; exact hq.symm)); (focus (intro b q hq; simp only [St.setv, lset, cond, ltb] at hq; exact hq.symm)); intro bb hb; (first | (with_reducible have h9 : true = bb := hb; clear hb; subst h9) | (with_reducible have h9 : false = bb := hb; clear hb; subst h9) | skip))
      | ((with_reducible apply RUND_l); (focus (intro q hq; simp only [laOK, List.all_cons, List.all_nil, St.get, lk, cond, AV.refs, AV.refs.refsL, memb, List.append_nil, Bool.and_true, Bool.true_and, Bool.and_self] at hq; exact hq.symm)); (focus (intro q hq; simp only [go_sem, Nat.reduceAdd, Nat.reduceSub, Nat.reduceMul] at hq; exact hq.symm)))
      | ((with_reducible apply RUND_lm); (focus (intro q hq; simp only [laOK, List.all_cons, List.all_nil, St.get, lk, cond, AV.refs, AV.refs.refsL, memb, List.append_nil, Bool.and_true, Bool.true_and, Bool.and_self] at hq; exact hq.symm)); (focus (intro q hq; simp only [go_sem, Nat.reduceAdd, Nat.reduceSub, Nat.reduceMul] at hq; exact hq.symm)))
      | ((with_reducible apply RUND_gt); (focus (intro q hq; simp only [St.get, lk, cond] at hq; exact hq.symm)))
      | ((with_reducible apply RUND_gf); (focus (intro q hq; simp only [sameOn, laOK, List.all_cons, List.all_nil, St.get, lk, lset, cond, AV.refs, AV.refs.refsL, memb, List.append_nil, Bool.and_true, Bool.true_and, Bool.and_self, and_self, and_true, skipOK, eq_self, forall_const, implies_true, false_implies, Bool.false_and, Bool.and_false, Bool.false_eq_true] at hq; subst hq; trivial)); (focus (intro q hq; simp only [St.get, lk, cond] at hq; exact hq.symm)); (focus (intro q hq; simp only [St.setv, lset, cond, ltb] at hq; exact hq.symm)))
      | ((with_reducible apply RUND_gu); (focus (intro q hq; simp only [sameOn, laOK, List.all_cons, List.all_nil, St.get, lk, lset, cond, AV.refs, AV.refs.refsL, memb, List.append_nil, Bool.and_true, Bool.true_and, Bool.and_self, and_self, and_true, skipOK, eq_self, forall_const, implies_true, false_implies, Bool.false_and, Bool.and_false, Bool.false_eq_true] at hq; subst hq; trivial)); (focus (intro q hq; simp only [St.get, lk, cond] at hq; exact hq.symm)); (focus (intro q hq; simp only [St.setv, lset, cond, ltb] at hq; exact hq.symm)))
      | ((with_reducible apply RUND_gv); rotate_left; (focus (intro q hq; simp only [St.get, lk, cond] at hq; exact hq.symm)); (focus (intro q hq; simp only [St.setv, lset, cond, ltb] at hq; exact hq.symm)); rotate_left; rotate_left; (focus (intro q hq; simp only [sameOn, laOK, List.all_cons, List.all_nil, St.get, lk, lset, cond, AV.refs, AV.refs.refsL, memb, List.append_nil, Bool.and_true, Bool.true_and, Bool.and_self, and_self, and_true, skipOK, eq_self, forall_const, implies_true, false_implies, Bool.false_and, Bool.and_false, Bool.false_eq_true] at hq; subst hq; trivial)); intro e; (first | subst e | (simp only [Bool.not_eq_true', Bool.not_eq_false'] at e; subst e)); rotate_left; intro e; simp only [Bool.not_true, Bool.not_false, Bool.not_eq_true', Bool.not_eq_false'] at e; subst e)
      | ((with_reducible apply RUND_ch); (focus (intro q hq; simp only [go_sem, Nat.reduceAdd, Nat.reduceSub, Nat.reduceMul] at hq; exact hq.symm)); (focus (intro q hq; simp only [sameOn, laOK, List.all_cons, List.all_nil, St.get, lk, lset, cond, AV.refs, AV.refs.refsL, memb, List.append_nil, Bool.and_true, Bool.true_and, Bool.and_self, and_self, and_true] at hq; subst hq; trivial)); (focus (intro e; first | (cases e; done) | rfl)))
      | ((with_reducible apply RUN_gf); (focus (intro q hq; simp only [St.get, lk, cond] at hq; exact hq.symm)); (focus (intro q hq; simp only [St.setv, lset, cond, ltb] at hq; exact hq.symm)))
      | ((with_reducible apply RUN_gu); (focus (intro q hq; simp only [St.get, lk, cond] at hq; exact hq.symm)); (focus (intro q hq; simp only [St.setv, lset, cond, ltb] at hq; exact hq.symm)))
      | ((with_reducible apply RUN_gv); (focus (intro q hq; simp only [St.get, lk, cond] at hq; exact hq.symm)); (focus (intro q hq; simp only [St.setv, lset, cond, ltb] at hq; exact hq.symm)); intro e; (first | subst e | (simp only [Bool.not_eq_true', Bool.not_eq_false'] at e; subst e)); rotate_left; intro e; simp only [Bool.not_true, Bool.not_false, Bool.not_eq_true', Bool.not_eq_false'] at e; subst e)
      | ((with_reducible apply RUN_ct); (focus (intro q hq; simp only [St.ev, St.get, lk, cond, ofConst] at hq; exact hq.symm)))
      | ((with_reducible apply RUN_cf); (focus (intro q hq; simp only [St.ev, St.get, lk, cond, ofConst] at hq; exact hq.symm)))
      | ((with_reducible apply RUN_phi); (focus (intro q hq; simp only [St.ev, St.get, lk, cond, ofConst] at hq; exact hq.symm)); (focus (intro q hq; simp only [runP, go_sem, Nat.reduceAdd, Nat.reduceSub, Nat.reduceMul] at hq; exact hq.symm)); (focus (intro q hq; simp only [phiS, phiAV, phiD, dstsOf, app, lset, St.get, lk, cond, decide_true, if_true] at hq; exact hq.symm)))
      | ((with_reducible apply RUN_phi2); (focus (intro q hq; simp only [St.ev, St.get, lk, cond, ofConst] at hq; exact hq.symm)); (focus (intro q hq; simp only [runP, go_sem, Nat.reduceAdd, Nat.reduceSub, Nat.reduceMul] at hq; exact hq.symm)); (focus (intro q hq; simp only [runP, go_sem, Nat.reduceAdd, Nat.reduceSub, Nat.reduceMul] at hq; exact hq.symm)); (focus (intro q hq; simp only [phiS, phiAV, phiD, dstsOf, app, lset, St.get, lk, cond, decide_true, if_true] at hq; exact hq.symm)))
      | ((with_reducible apply RUN_cv); (focus (intro q hq; simp only [St.ev, St.get, lk, cond, ofConst] at hq; exact hq.symm)); all_goals (intro e; first | cases e | (simp only [Bool.not_eq_true', Bool.not_eq_false'] at e; subst e) | skip)))
    · have hi : i < l.length := by simpa using hb
      obtain ⟨p, hp⟩ : ∃ p, l[i]? = some p := ⟨_, List.getElem?_eq_getElem hi⟩
      obtain ⟨a, c⟩ := p
      have hw := w64_one (i := i) (by omega)
      repeat' (first
        | with_reducible refine WC_seq ?_
        | with_reducible refine WC_region ?_
        | with_reducible refine WC_skip ?_
        | with_reducible refine WC_ret ?_
        | with_reducible refine WC_exit ?_
        | with_reducible refine WC_block ?_
        | with_reducible refine thenQ_n ?_
        | with_reducible refine thenQ_r ?_
        | with_reducible refine thenQ_e ?_
        | with_reducible refine blockQ_n ?_
        | with_reducible refine blockQ_r ?_
        | with_reducible refine blockQ_e ?_
        | with_reducible refine blockQ_o rfl ?_
        | with_reducible refine WRs_nil ?_
        | ((with_reducible apply RUN_bool); (focus (intro q hq; simp only [go_sem, Nat.reduceAdd, Nat.reduceSub, Nat.reduceMul, List.getElem?_map, hp, rg] at hq; exact hq.symm)); (focus (intro b q hq; simp only [St.setv, lset, cond, ltb] at hq; exact hq.symm)); intro bb hb; (first | (with_reducible have h9 : true = bb := hb; clear hb; subst h9) | (with_reducible have h9 : false = bb := hb; clear hb; subst h9) | skip))
        | ((with_reducible apply WRs_nil2); (focus (intro q hq; simp only [nilS, isSl, isConstNil, St.ev, St.get, lk, cond, Bool.and_true, Bool.and_self, tk_22, tk_23, tk_26, tk_27, tk_3, tk_30, tk_4, tk_46, tk_47, tk_9] at hq; exact hq.symm)); (focus (intro b q hq; simp only [St.setv, lset, cond, ltb] at hq; exact hq.symm)); intro bb hb; (first | (with_reducible have h9 : true = bb := hb; clear hb; subst h9) | (with_reducible have h9 : false = bb := hb; clear hb; subst h9) | skip))
        | ((with_reducible apply RUN_n); (focus (intro q hq; simp only [go_sem, Nat.reduceAdd, Nat.reduceSub, Nat.reduceMul, List.getElem?_map, hp, rg] at hq; exact hq.symm)))
        | ((with_reducible apply RUN_gt); (focus (intro q hq; simp only [St.get, lk, cond] at hq; exact hq.symm)))
        | ((with_reducible apply WC_draw mx); (focus (intro q hq; simp only [objNames, List.map_cons, List.map_nil, List.filter_cons, List.filter_nil, isObj, lk, cond, if_true, if_false, Bool.false_eq_true] at hq; exact hq.symm)); (focus rfl))
        | with_reducible refine RUND_nil ?_
        | ((with_reducible apply RUND_bool); (focus (intro q hq; simp only [go_sem, Nat.reduceAdd, Nat.reduceSub, Nat.reduceMul, List.getElem?_map, hp, rg] at hq; exact hq.symm)); (focus (intro b q hq; simp only [St.setv, lset, cond, ltb] at hq; exact hq.symm)); intro bb hb; (first | (with_reducible have h9 : true = bb := hb; clear hb; subst h9) | (with_reducible have h9 : false = bb := hb; clear hb; subst h9) | skip))
        | ((with_reducible apply RUND_n); (focus (intro q hq; simp only [go_sem, Nat.reduceAdd, Nat.reduceSub, Nat.reduceMul, List.getElem?_map, hp, rg] at hq; exact hq.symm)))
        | ((with_reducible apply RUND_lbool); (focus (intro q hq; simp only [laOK, List.all_cons, List.all_nil, St.get, lk, cond, AV.refs, AV.refs.refsL, memb, List.append_nil, Bool.and_true, Bool.true_and, Bool.and_self] at hq; exact hq.symm)); (focus (intro q hq; simp only [go_sem, Nat.reduceAdd, Nat.reduceSub, Nat.reduceMul, List.getElem?_map, hp, rg] at hq; exact hq.symm)); (focus (intro b q hq; simp only [St.setv, lset, cond, ltb] at hq; exact hq.symm)); intro bb hb; (first | (with_reducible have h9 : true = bb := hb; clear hb; subst h9) | (with_reducible have h9 : false = bb := hb; clear hb; subst h9) | skip))
        | ((with_reducible apply RUND_l); (focus (intro q hq; simp only [laOK, List.all_cons, List.all_nil, St.get, lk, cond, AV.refs, AV.refs.refsL, memb, List.append_nil, Bool.and_true, Bool.true_and, Bool.and_self] at hq; exact hq.symm)); (focus (intro q hq; simp only [go_sem, Nat.reduceAdd, Nat.reduceSub, Nat.reduceMul, List.getElem?_map, hp, rg] at hq; exact hq.symm)))
        | ((with_reducible apply RUND_lm); (focus (intro q hq; simp only [laOK, List.all_cons, List.all_nil, St.get, lk, cond, AV.refs, AV.refs.refsL, memb, List.append_nil, Bool.and_true, Bool.true_and, Bool.and_self] at hq; exact hq.symm)); (focus (intro q hq; simp only [go_sem, Nat.reduceAdd, Nat.reduceSub, Nat.reduceMul, List.getElem?_map, hp, rg] at hq; exact hq.symm)))
        | ((with_reducible apply RUND_gt); (focus (intro q hq; simp only [St.get, lk, cond] at hq; exact hq.symm)))
        | ((with_reducible apply RUND_gf); (focus (intro q hq; simp only [sameOn, laOK, List.all_cons, List.all_nil, St.get, lk, lset, cond, AV.refs, AV.refs.refsL, memb, List.append_nil, Bool.and_true, Bool.true_and, Bool.and_self, and_self, and_true, skipOK, eq_self, forall_const, implies_true, false_implies, Bool.false_and, Bool.and_false, Bool.false_eq_true] at hq; subst hq; trivial)); (focus (intro q hq; simp only [St.get, lk, cond] at hq; exact hq.symm)); (focus (intro q hq; simp only [St.setv, lset, cond, ltb] at hq; exact hq.symm)))
        | ((with_reducible apply RUND_gu); (focus (intro q hq; simp only [sameOn, laOK, List.all_cons, List.all_nil, St.get, lk, lset, cond, AV.refs, AV.refs.refsL, memb, List.append_nil, Bool.and_true, Bool.true_and, Bool.and_self, and_self, and_true, skipOK, eq_self, forall_const, implies_true, false_implies, Bool.false_and, Bool.and_false, Bool.false_eq_true] at hq; subst hq; trivial)); (focus (intro q hq; simp only [St.get, lk, cond] at hq; exact hq.symm)); (focus (intro q hq; simp only [St.setv, lset, cond, ltb] at hq; exact hq.symm)))
        | ((with_reducible apply RUND_gv); rotate_left; (focus (intro q hq; simp only [St.get, lk, cond] at hq; exact hq.symm)); (focus (intro q hq; simp only [St.setv, lset, cond, ltb] at hq; exact hq.symm)); rotate_left; rotate_left; (focus (intro q hq; simp only [sameOn, laOK, List.all_cons, List.all_nil, St.get, lk, lset, cond, AV.refs, AV.refs.refsL, memb, List.append_nil, Bool.and_true, Bool.true_and, Bool.and_self, and_self, and_true, skipOK, eq_self, forall_const, implies_true, false_implies, Bool.false_and, Bool.and_false, Bool.false_eq_true] at hq; subst hq; trivial)); intro e; (first | subst e | (simp only [Bool.not_eq_true', Bool.not_eq_false'] at e; subst e)); rotate_left; intro e; simp only [Bool.not_true, Bool.not_false, Bool.not_eq_true', Bool.not_eq_false'] at e; subst e)
        | ((with_reducible apply RUND_ch); (focus (intro q hq; simp only [go_sem, Nat.reduceAdd, Nat.reduceSub, Nat.reduceMul, List.getElem?_map, hp, rg] at hq; exact hq.symm)); (focus (intro q hq; simp only [sameOn, laOK, List.all_cons, List.all_nil, St.get, lk, lset, cond, AV.refs, AV.refs.refsL, memb, List.append_nil, Bool.and_true, Bool.true_and, Bool.and_self, and_self, and_true] at hq; subst hq; trivial)); (focus (intro e; first | (cases e; done) | rfl)))
        | ((with_reducible apply RUN_gf); (focus (intro q hq; simp only [St.get, lk, cond] at hq; exact hq.symm)); (focus (intro q hq; simp only [St.setv, lset, cond, ltb] at hq; exact hq.symm)))
        | ((with_reducible apply RUN_gu); (focus (intro q hq; simp only [St.get, lk, cond] at hq; exact hq.symm)); (focus (intro q hq; simp only [St.setv, lset, cond, ltb] at hq; exact hq.symm)))
        | ((with_reducible apply RUN_gv); (focus (intro q hq; simp only [St.get, lk, cond] at hq; exact hq.symm)); (focus (intro q hq; simp only [St.setv, lset, cond, ltb] at hq; exact hq.symm)); intro e; (first | subst e | (simp only [Bool.not_eq_true', Bool.not_eq_false'] at e; subst e)); rotate_left; intro e; simp only [Bool.not_true, Bool.not_false, Bool.not_eq_true', Bool.not_eq_false'] at e; subst e)
        | ((with_reducible apply RUN_ct); (focus (intro q hq; simp only [St.ev, St.get, lk, cond, ofConst] at hq; exact hq.symm)))
        | ((with_reducible apply RUN_cf); (focus (intro q hq; simp only [St.ev, St.get, lk, cond, ofConst] at hq; exact hq.symm)))
        | ((with_reducible apply RUN_phi); (focus (intro q hq; simp only [St.ev, St.get, lk, cond, ofConst] at hq; exact hq.symm)); (focus (intro q hq; simp only [runP, go_sem, Nat.reduceAdd, Nat.reduceSub, Nat.reduceMul, List.getElem?_map, hp, rg] at hq; exact hq.symm)); (focus (intro q hq; simp only [phiS, phiAV, phiD, dstsOf, app, lset, St.get, lk, cond, decide_true, if_true] at hq; exact hq.symm)))
        | ((with_reducible apply RUN_phi2); (focus (intro q hq; simp only [St.ev, St.get, lk, cond, ofConst] at hq; exact hq.symm)); (focus (intro q hq; simp only [runP, go_sem, Nat.reduceAdd, Nat.reduceSub, Nat.reduceMul, List.getElem?_map, hp, rg] at hq; exact hq.symm)); (focus (intro q hq; simp only [runP, go_sem, Nat.reduceAdd, Nat.reduceSub, Nat.reduceMul, List.getElem?_map, hp, rg] at hq; exact hq.symm)); (focus (intro q hq; simp only [phiS, phiAV, phiD, dstsOf, app, lset, St.get, lk, cond, decide_true, if_true] at hq; exact hq.symm)))
        | ((with_reducible apply RUN_cv); (focus (intro q hq; simp only [St.ev, St.get, lk, cond, ofConst] at hq; exact hq.symm)); all_goals (intro e; first | cases e | (simp only [Bool.not_eq_true', Bool.not_eq_false'] at e; subst e) | skip)))
      all_goals first
        | (refine ⟨i + 1, ⟨by omega, ?_⟩, by omega, ?_⟩
           · rw [List.take_add_one, hp, List.any_append, hI2]
             subst_vars
             simp only [List.any_cons, List.any_nil, Option.toList, inR_eq, Bool.false_or, Bool.or_false]
             simp only [*, Bool.and_false, Bool.false_and, Bool.and_true]
           · intro q hq; simp only [St.keep, keepL, memb, cond, hw] at hq; exact hq.symm)
        | skip
      (with_reducible apply RUN_ret)
      (focus (intro q hq; simp only [aret, arets, St.get, lk, cond] at hq; exact hq.symm))
      (focus (intro q hq; simp only [keepL, memb, cond] at hq; exact hq.symm))
      (try refine ⟨?_, rfl⟩)
      (try with_reducible rfl)
      have : inR n top (a, c) = true := by
        subst_vars
        rw [inR_eq]
        simp only [*, Bool.and_true]
      rw [hasF, List.any_eq_true.2 ⟨_, List.mem_of_getElem? hp, this⟩]
    · skip
      repeat' (first
        | with_reducible refine WC_seq ?_
        | with_reducible refine WC_region ?_
        | with_reducible refine WC_skip ?_
        | with_reducible refine WC_ret ?_
        | with_reducible refine WC_exit ?_
        | with_reducible refine WC_block ?_
        | with_reducible refine thenQ_n ?_
        | with_reducible refine thenQ_r ?_
        | with_reducible refine thenQ_e ?_
        | with_reducible refine blockQ_n ?_
        | with_reducible refine blockQ_r ?_
        | with_reducible refine blockQ_e ?_
        | with_reducible refine blockQ_o rfl ?_
        | with_reducible refine WRs_nil ?_
        | ((with_reducible apply RUN_bool); (focus (intro q hq; simp only [go_sem, Nat.reduceAdd, Nat.reduceSub, Nat.reduceMul] at hq; exact hq.symm)); (focus (intro b q hq; simp only [St.setv, lset, cond, ltb] at hq; exact hq.symm)); intro bb hb; (first | (with_reducible have h9 : true = bb := hb; clear hb; subst h9) | (with_reducible have h9 : false = bb := hb; clear hb; subst h9) | skip))
        | ((with_reducible apply WRs_nil2); (focus (intro q hq; simp only [nilS, isSl, isConstNil, St.ev, St.get, lk, cond, Bool.and_true, Bool.and_self, tk_22, tk_23, tk_26, tk_27, tk_3, tk_30, tk_4, tk_46, tk_47, tk_9] at hq; exact hq.symm)); (focus (intro b q hq; simp only [St.setv, lset, cond, ltb] at hq; exact hq.symm)); intro bb hb; (first | (with_reducible have h9 : true = bb := hb; clear hb; subst h9) | (with_reducible have h9 : false = bb := hb; clear hb; subst h9) | skip))
        | ((with_reducible apply RUN_n); (focus (intro q hq; simp only [go_sem, Nat.reduceAdd, Nat.reduceSub, Nat.reduceMul] at hq; exact hq.symm)))
        | ((with_reducible apply RUN_gt); (focus (intro q hq; simp only [St.get, lk, cond] at hq; exact hq.symm)))
        | ((with_reducible apply WC_draw mx); (focus (intro q hq; simp only [objNames, List.map_cons, List.map_nil, List.filter_cons, List.filter_nil, isObj, lk, cond, if_true, if_false, Bool.false_eq_true] at hq; exact hq.symm)); (focus rfl))
        | with_reducible refine RUND_nil ?_
        | ((with_reducible apply RUND_bool); (focus (intro q hq; simp only [go_sem, Nat.reduceAdd, Nat.reduceSub, Nat.reduceMul] at hq; exact hq.symm)); (focus (intro b q hq; simp only [St.setv, lset, cond, ltb] at hq; exact hq.symm)); intro bb hb; (first | (with_reducible have h9 : true = bb := hb; clear hb; subst h9) | (with_reducible have h9 : false = bb := hb; clear hb; subst h9) | skip))
        | ((with_reducible apply RUND_n); (focus (intro q hq; simp only [go_sem, Nat.reduceAdd, Nat.reduceSub, Nat.reduceMul] at hq; exact hq.symm)))
        | ((with_reducible apply RUND_lbool); (focus (intro q hq; simp only [laOK, List.all_cons, List.all_nil, St.get, lk, cond, AV.refs, AV.refs.refsL, memb, List.append_nil, Bool.and_true, Bool.true_and, Bool.and_self] at hq; exact hq.symm)); (focus (intro q hq; simp only [go_sem, Nat.reduceAdd, Nat.reduceSub, Nat.reduceMul] at hq; exact hq.symm)); (focus (intro b q hq; simp only [St.setv, lset, cond, ltb] at hq; exact hq.symm)); intro bb hb; (first | (with_reducible have h9 : true = bb := hb; clear hb; subst h9) | (with_reducible have h9 : false = bb := hb; clear hb; subst h9) | skip))
        | ((with_reducible apply RUND_l); (focus (intro q hq; simp only [laOK, List.all_cons, List.all_nil, St.get, lk, cond, AV.refs, AV.refs.refsL, memb, List.append_nil, Bool.and_true, Bool.true_and, Bool.and_self] at hq; exact hq.symm)); (focus (intro q hq; simp only [go_sem, Nat.reduceAdd, Nat.reduceSub, Nat.reduceMul] at hq; exact hq.symm)))
        | ((with_reducible apply RUND_lm); (focus (intro q hq; simp only [laOK, List.all_cons, List.all_nil, St.get, lk, cond, AV.refs, AV.refs.refsL, memb, List.append_nil, Bool.and_true, Bool.true_and, Bool.and_self] at hq; exact hq.symm)); (focus (intro q hq; simp only [go_sem, Nat.reduceAdd, Nat.reduceSub, Nat.reduceMul] at hq; exact hq.symm)))
        | ((with_reducible apply RUND_gt); (focus (intro q hq; simp only [St.get, lk, cond] at hq; exact hq.symm)))
        | ((with_reducible apply RUND_gf); (focus (intro q hq; simp only [sameOn, laOK, List.all_cons, List.all_nil, St.get, lk, lset, cond, AV.refs, AV.refs.refsL, memb, List.append_nil, Bool.and_true, Bool.true_and, Bool.and_self, and_self, and_true, skipOK, eq_self, forall_const, implies_true, false_implies, Bool.false_and, Bool.and_false, Bool.false_eq_true] at hq; subst hq; trivial)); (focus (intro q hq; simp only [St.get, lk, cond] at hq; exact hq.symm)); (focus (intro q hq; simp only [St.setv, lset, cond, ltb] at hq; exact hq.symm)))
        | ((with_reducible apply RUND_gu); (focus (intro q hq; simp only [sameOn, laOK, List.all_cons, List.all_nil, St.get, lk, lset, cond, AV.refs, AV.refs.refsL, memb, List.append_nil, Bool.and_true, Bool.true_and, Bool.and_self, and_self, and_true, skipOK, eq_self, forall_const, implies_true, false_implies, Bool.false_and, Bool.and_false, Bool.false_eq_true] at hq; subst hq; trivial)); (focus (intro q hq; simp only [St.get, lk, cond] at hq; exact hq.symm)); (focus (intro q hq; simp only [St.setv, lset, cond, ltb] at hq; exact hq.symm)))
        | ((with_reducible apply RUND_gv); rotate_left; (focus (intro q hq; simp only [St.get, lk, cond] at hq; exact hq.symm)); (focus (intro q hq; simp only [St.setv, lset, cond, ltb] at hq; exact hq.symm)); rotate_left; rotate_left; (focus (intro q hq; simp only [sameOn, laOK, List.all_cons, List.all_nil, St.get, lk, lset, cond, AV.refs, AV.refs.refsL, memb, List.append_nil, Bool.and_true, Bool.true_and, Bool.and_self, and_self, and_true, skipOK, eq_self, forall_const, implies_true, false_implies, Bool.false_and, Bool.and_false, Bool.false_eq_true] at hq; subst hq; trivial)); intro e; (first | subst e | (simp only [Bool.not_eq_true', Bool.not_eq_false'] at e; subst e)); rotate_left; intro e; simp only [Bool.not_true, Bool.not_false, Bool.not_eq_true', Bool.not_eq_false'] at e; subst e)
        | ((with_reducible apply RUND_ch); (focus (intro q hq; simp only [go_sem, Nat.reduceAdd, Nat.reduceSub, Nat.reduceMul] at hq; exact hq.symm)); (focus (intro q hq; simp only [sameOn, laOK, List.all_cons, List.all_nil, St.get, lk, lset, cond, AV.refs, AV.refs.refsL, memb, List.append_nil, Bool.and_true, Bool.true_and, Bool.and_self, and_self, and_true] at hq; subst hq; trivial)); (focus (intro e; first | (cases e; done) | rfl)))
        | ((with_reducible apply RUN_gf); (focus (intro q hq; simp only [St.get, lk, cond] at hq; exact hq.symm)); (focus (intro q hq; simp only [St.setv, lset, cond, ltb] at hq; exact hq.symm)))
        | ((with_reducible apply RUN_gu); (focus (intro q hq; simp only [St.get, lk, cond] at hq; exact hq.symm)); (focus (intro q hq; simp only [St.setv, lset, cond, ltb] at hq; exact hq.symm)))
        | ((with_reducible apply RUN_gv); (focus (intro q hq; simp only [St.get, lk, cond] at hq; exact hq.symm)); (focus (intro q hq; simp only [St.setv, lset, cond, ltb] at hq; exact hq.symm)); intro e; (first | subst e | (simp only [Bool.not_eq_true', Bool.not_eq_false'] at e; subst e)); rotate_left; intro e; simp only [Bool.not_true, Bool.not_false, Bool.not_eq_true', Bool.not_eq_false'] at e; subst e)
        | ((with_reducible apply RUN_ct); (focus (intro q hq; simp only [St.ev, St.get, lk, cond, ofConst] at hq; exact hq.symm)))
        | ((with_reducible apply RUN_cf); (focus (intro q hq; simp only [St.ev, St.get, lk, cond, ofConst] at hq; exact hq.symm)))
        | ((with_reducible apply RUN_phi); (focus (intro q hq; simp only [St.ev, St.get, lk, cond, ofConst] at hq; exact hq.symm)); (focus (intro q hq; simp only [runP, go_sem, Nat.reduceAdd, Nat.reduceSub, Nat.reduceMul] at hq; exact hq.symm)); (focus (intro q hq; simp only [phiS, phiAV, phiD, dstsOf, app, lset, St.get, lk, cond, decide_true, if_true] at hq; exact hq.symm)))
        | ((with_reducible apply RUN_phi2); (focus (intro q hq; simp only [St.ev, St.get, lk, cond, ofConst] at hq; exact hq.symm)); (focus (intro q hq; simp only [runP, go_sem, Nat.reduceAdd, Nat.reduceSub, Nat.reduceMul] at hq; exact hq.symm)); (focus (intro q hq; simp only [runP, go_sem, Nat.reduceAdd, Nat.reduceSub, Nat.reduceMul] at hq; exact hq.symm)); (focus (intro q hq; simp only [phiS, phiAV, phiD, dstsOf, app, lset, St.get, lk, cond, decide_true, if_true] at hq; exact hq.symm)))
        | ((with_reducible apply RUN_cv); (focus (intro q hq; simp only [St.ev, St.get, lk, cond, ofConst] at hq; exact hq.symm)); all_goals (intro e; first | cases e | (simp only [Bool.not_eq_true', Bool.not_eq_false'] at e; subst e) | skip)))
      (with_reducible apply RUN_ret)
      (focus (intro q hq; simp only [aret, arets, St.get, lk, cond] at hq; exact hq.symm))
      (focus (intro q hq; simp only [keepL, memb, cond] at hq; exact hq.symm))
      (try refine ⟨?_, rfl⟩)
      (try with_reducible rfl)
      have : l.take i = l := List.take_of_length_le (by simp at hb; omega)
      rw [this] at hI2
      rw [hasF, hI2]
def riseAt (l : List Nat) (i : Nat) : Bool := match l[i]? with
  | some x => decide (x ≠ 0) && (decide (i = 0) || match l[i - 1]? with
    | some y => decide (y < x)
    | none => true)
  | none => true
def risesF (l : List Nat) : Bool := (List.range l.length).all (riseAt l)
theorem risesF_t {l : List Nat} (h : ∀ j, j < l.length → riseAt l j = true) : risesF l = true := by
  simp only [risesF, List.all_eq_true, List.mem_range]; exact h
theorem risesF_f {l : List Nat} {j : Nat} (h : j < l.length) (hf : riseAt l j = false) : risesF l = false := by
  cases hr : risesF l with
  | false => rfl
  | true =>
    simp only [risesF, List.all_eq_true, List.mem_range] at hr
    rw [hr j h] at hf; cases hf
theorem step_all {p : Nat → Bool} {i : Nat} (h : ∀ j, j < i → p j = true) (hi : p i = true) : ∀ j, j < i + 1 → p j = true := fun j hj => by
  by_cases e : j = i
  · rw [e]; exact hi
  · exact h j (by omega)
/-- Numbers, as they lie in memory. -/
def ns (l : List Nat) : List D := l.map fun x => .int .u32 (x : Nat)
theorem ns_len (l : List Nat) : (ns l).length = l.length := by simp [ns]
theorem ns_get (l : List Nat) (i : Nat) : (ns l)[i]? = (l[i]?).map fun x => .int .u32 (x : Nat) := by simp [ns]
theorem rises_con (l : List Nat) (hl : l.length < 4294967296) : Pu Try.prog 26 [(.list (ns l))] (.bool (risesF l)) := by
  refine rises_o (by simp) ?_
  simp only [numb, List.map, Nat.zero_add]
  repeat' (first
    | with_reducible refine WC_seq ?_
    | with_reducible refine WC_region ?_
    | with_reducible refine WC_skip ?_
    | with_reducible refine WC_ret ?_
    | with_reducible refine WC_exit ?_
    | with_reducible refine WC_block ?_
    | with_reducible refine thenQ_n ?_
    | with_reducible refine thenQ_r ?_
    | with_reducible refine thenQ_e ?_
    | with_reducible refine blockQ_n ?_
    | with_reducible refine blockQ_r ?_
    | with_reducible refine blockQ_e ?_
    | with_reducible refine blockQ_o rfl ?_
    | with_reducible refine WRs_nil ?_
    | ((with_reducible apply RUN_bool); (focus (intro q hq; simp only [go_sem, Nat.reduceAdd, Nat.reduceSub, Nat.reduceMul] at hq; exact hq.symm)); (focus (intro b q hq; simp only [St.setv, lset, cond, ltb] at hq; exact hq.symm)); intro bb hb; (first | (with_reducible have h9 : true = bb := hb; clear hb; subst h9) | (with_reducible have h9 : false = bb := hb; clear hb; subst h9) | skip))
    | ((with_reducible apply WRs_nil2); (focus (intro q hq; simp only [nilS, isSl, isConstNil, St.ev, St.get, lk, cond, Bool.and_true, Bool.and_self, tk_22, tk_23, tk_26, tk_27, tk_3, tk_30, tk_4, tk_46, tk_47, tk_9] at hq; exact hq.symm)); (focus (intro b q hq; simp only [St.setv, lset, cond, ltb] at hq; exact hq.symm)); intro bb hb; (first | (with_reducible have h9 : true = bb := hb; clear hb; subst h9) | (with_reducible have h9 : false = bb := hb; clear hb; subst h9) | skip))
    | ((with_reducible apply RUN_n); (focus (intro q hq; simp only [go_sem, Nat.reduceAdd, Nat.reduceSub, Nat.reduceMul] at hq; exact hq.symm)))
    | ((with_reducible apply RUN_gt); (focus (intro q hq; simp only [St.get, lk, cond] at hq; exact hq.symm)))
    | ((with_reducible apply WC_draw mx); (focus (intro q hq; simp only [objNames, List.map_cons, List.map_nil, List.filter_cons, List.filter_nil, isObj, lk, cond, if_true, if_false, Bool.false_eq_true] at hq; exact hq.symm)); (focus rfl))
    | with_reducible refine RUND_nil ?_
    | ((with_reducible apply RUND_bool); (focus (intro q hq; simp only [go_sem, Nat.reduceAdd, Nat.reduceSub, Nat.reduceMul] at hq; exact hq.symm)); (focus (intro b q hq; simp only [St.setv, lset, cond, ltb] at hq; exact hq.symm)); intro bb hb; (first | (with_reducible have h9 : true = bb := hb; clear hb; subst h9) | (with_reducible have h9 : false = bb := hb; clear hb; subst h9) | skip))
    | ((with_reducible apply RUND_n); (focus (intro q hq; simp only [go_sem, Nat.reduceAdd, Nat.reduceSub, Nat.reduceMul] at hq; exact hq.symm)))
    | ((with_reducible apply RUND_lbool); (focus (intro q hq; simp only [laOK, List.all_cons, List.all_nil, St.get, lk, cond, AV.refs, AV.refs.refsL, memb, List.append_nil, Bool.and_true, Bool.true_and, Bool.and_self] at hq; exact hq.symm)); (focus (intro q hq; simp only [go_sem, Nat.reduceAdd, Nat.reduceSub, Nat.reduceMul] at hq; exact hq.symm)); (focus (intro b q hq; simp only [St.setv, lset, cond, ltb] at hq; exact hq.symm)); intro bb hb; (first | (with_reducible have h9 : true = bb := hb; clear hb; subst h9) | (with_reducible have h9 : false = bb := hb; clear hb; subst h9) | skip))
    | ((with_reducible apply RUND_l); (focus (intro q hq; simp only [laOK, List.all_cons, List.all_nil, St.get, lk, cond, AV.refs, AV.refs.refsL, memb, List.append_nil, Bool.and_true, Bool.true_and, Bool.and_self] at hq; exact hq.symm)); (focus (intro q hq; simp only [go_sem, Nat.reduceAdd, Nat.reduceSub, Nat.reduceMul] at hq; exact hq.symm)))
    | ((with_reducible apply RUND_lm); (focus (intro q hq; simp only [laOK, List.all_cons, List.all_nil, St.get, lk, cond, AV.refs, AV.refs.refsL, memb, List.append_nil, Bool.and_true, Bool.true_and, Bool.and_self] at hq; exact hq.symm)); (focus (intro q hq; simp only [go_sem, Nat.reduceAdd, Nat.reduceSub, Nat.reduceMul] at hq; exact hq.symm)))
    | ((with_reducible apply RUND_gt); (focus (intro q hq; simp only [St.get, lk, cond] at hq; exact hq.symm)))
    | ((with_reducible apply RUND_gf); (focus (intro q hq; simp only [sameOn, laOK, List.all_cons, List.all_nil, St.get, lk, lset, cond, AV.refs, AV.refs.refsL, memb, List.append_nil, Bool.and_true, Bool.true_and, Bool.and_self, and_self, and_true, skipOK, eq_self, forall_const, implies_true, false_implies, Bool.false_and, Bool.and_false, Bool.false_eq_true] at hq; subst hq; trivial)); (focus (intro q hq; simp only [St.get, lk, cond] at hq; exact hq.symm)); (focus (intro q hq; simp only [St.setv, lset, cond, ltb] at hq; exact hq.symm)))
    | ((with_reducible apply RUND_gu); (focus (intro q hq; simp only [sameOn, laOK, List.all_cons, List.all_nil, St.get, lk, lset, cond, AV.refs, AV.refs.refsL, memb, List.append_nil, Bool.and_true, Bool.true_and, Bool.and_self, and_self, and_true, skipOK, eq_self, forall_const, implies_true, false_implies, Bool.false_and, Bool.and_false, Bool.false_eq_true] at hq; subst hq; trivial)); (focus (intro q hq; simp only [St.get, lk, cond] at hq; exact hq.symm)); (focus (intro q hq; simp only [St.setv, lset, cond, ltb] at hq; exact hq.symm)))
    | ((with_reducible apply RUND_gv); rotate_left; (focus (intro q hq; simp only [St.get, lk, cond] at hq; exact hq.symm)); (focus (intro q hq; simp only [St.setv, lset, cond, ltb] at hq; exact hq.symm)); rotate_left; rotate_left; (focus (intro q hq; simp only [sameOn, laOK, List.all_cons, List.all_nil, St.get, lk, lset, cond, AV.refs, AV.refs.refsL, memb, List.append_nil, Bool.and_true, Bool.true_and, Bool.and_self, and_self, and_true, skipOK, eq_self, forall_const, implies_true, false_implies, Bool.false_and, Bool.and_false, Bool.false_eq_true] at hq; subst hq; trivial)); intro e; (first | subst e | (simp only [Bool.not_eq_true', Bool.not_eq_false'] at e; subst e)); rotate_left; intro e; simp only [Bool.not_true, Bool.not_false, Bool.not_eq_true', Bool.not_eq_false'] at e; subst e)
    | ((with_reducible apply RUND_ch); (focus (intro q hq; simp only [go_sem, Nat.reduceAdd, Nat.reduceSub, Nat.reduceMul] at hq; exact hq.symm)); (focus (intro q hq; simp only [sameOn, laOK, List.all_cons, List.all_nil, St.get, lk, lset, cond, AV.refs, AV.refs.refsL, memb, List.append_nil, Bool.and_true, Bool.true_and, Bool.and_self, and_self, and_true] at hq; subst hq; trivial)); (focus (intro e; first | (cases e; done) | rfl)))
    | ((with_reducible apply RUN_gf); (focus (intro q hq; simp only [St.get, lk, cond] at hq; exact hq.symm)); (focus (intro q hq; simp only [St.setv, lset, cond, ltb] at hq; exact hq.symm)))
    | ((with_reducible apply RUN_gu); (focus (intro q hq; simp only [St.get, lk, cond] at hq; exact hq.symm)); (focus (intro q hq; simp only [St.setv, lset, cond, ltb] at hq; exact hq.symm)))
    | ((with_reducible apply RUN_gv); (focus (intro q hq; simp only [St.get, lk, cond] at hq; exact hq.symm)); (focus (intro q hq; simp only [St.setv, lset, cond, ltb] at hq; exact hq.symm)); intro e; (first | subst e | (simp only [Bool.not_eq_true', Bool.not_eq_false'] at e; subst e)); rotate_left; intro e; simp only [Bool.not_true, Bool.not_false, Bool.not_eq_true', Bool.not_eq_false'] at e; subst e)
    | ((with_reducible apply RUN_ct); (focus (intro q hq; simp only [St.ev, St.get, lk, cond, ofConst] at hq; exact hq.symm)))
    | ((with_reducible apply RUN_cf); (focus (intro q hq; simp only [St.ev, St.get, lk, cond, ofConst] at hq; exact hq.symm)))
    | ((with_reducible apply RUN_phi); (focus (intro q hq; simp only [St.ev, St.get, lk, cond, ofConst] at hq; exact hq.symm)); (focus (intro q hq; simp only [runP, go_sem, Nat.reduceAdd, Nat.reduceSub, Nat.reduceMul] at hq; exact hq.symm)); (focus (intro q hq; simp only [phiS, phiAV, phiD, dstsOf, app, lset, St.get, lk, cond, decide_true, if_true] at hq; exact hq.symm)))
    | ((with_reducible apply RUN_phi2); (focus (intro q hq; simp only [St.ev, St.get, lk, cond, ofConst] at hq; exact hq.symm)); (focus (intro q hq; simp only [runP, go_sem, Nat.reduceAdd, Nat.reduceSub, Nat.reduceMul] at hq; exact hq.symm)); (focus (intro q hq; simp only [runP, go_sem, Nat.reduceAdd, Nat.reduceSub, Nat.reduceMul] at hq; exact hq.symm)); (focus (intro q hq; simp only [phiS, phiAV, phiD, dstsOf, app, lset, St.get, lk, cond, decide_true, if_true] at hq; exact hq.symm)))
    | ((with_reducible apply RUN_cv); (focus (intro q hq; simp only [St.ev, St.get, lk, cond, ofConst] at hq; exact hq.symm)); all_goals (intro e; first | cases e | (simp only [Bool.not_eq_true', Bool.not_eq_false'] at e; subst e) | skip)))
  refine WC_loopI (α := Nat) [0, 3] [] (fun i => i ≤ l.length ∧ ∀ j, j < i → riseAt l j = true) (fun i => { n := 31, tm := [(0, .d (.list (ns l))), (3, .d (.int .i64 i))], hp := [] }) (fun i => l.length - i) rfl 0 (by intro q hq; simp only [St.keep, keepL, memb, cond, Bool.false_eq_true, if_false, if_true] at hq; subst hq; first | rfl | (simp only [if_true]; done) | (simp only [if_true]; rfl)) ?_ (fun i hI => ?_)
  · simp
  · obtain ⟨hI1, hI2⟩ := hI
    repeat' (first
      | with_reducible refine WC_seq ?_
      | with_reducible refine WC_region ?_
      | with_reducible refine WC_skip ?_
      | with_reducible refine WC_ret ?_
      | with_reducible refine WC_exit ?_
      | with_reducible refine WC_block ?_
      | with_reducible refine thenQ_n ?_
      | with_reducible refine thenQ_r ?_
      | with_reducible refine thenQ_e ?_
      | with_reducible refine blockQ_n ?_
      | with_reducible refine blockQ_r ?_
      | with_reducible refine blockQ_e ?_
      | with_reducible refine blockQ_o rfl ?_
      | with_reducible refine WRs_nil ?_
      | ((with_reducible apply RUN_bool); (focus (intro q hq; simp only [go_sem, Nat.reduceAdd, Nat.reduceSub, Nat.reduceMul, ns_len] at hq; exact hq.symm)); (focus (intro b q hq; simp only [St.setv, lset, cond, ltb] at hq; exact hq.symm)); intro bb hb; (first | (with_reducible have h9 : true = bb := hb; clear hb; subst h9) | (with_reducible have h9 : false = bb := hb; clear hb; subst h9) | skip))
      | ((with_reducible apply WRs_nil2); (focus (intro q hq; simp only [nilS, isSl, isConstNil, St.ev, St.get, lk, cond, Bool.and_true, Bool.and_self, tk_22, tk_23, tk_26, tk_27, tk_3, tk_30, tk_4, tk_46, tk_47, tk_9] at hq; exact hq.symm)); (focus (intro b q hq; simp only [St.setv, lset, cond, ltb] at hq; exact hq.symm)); intro bb hb; (first | (with_reducible have h9 : true = bb := hb; clear hb; subst h9) | (with_reducible have h9 : false = bb := hb; clear hb; subst h9) | skip))
      | ((with_reducible apply RUN_n); (focus (intro q hq; simp only [go_sem, Nat.reduceAdd, Nat.reduceSub, Nat.reduceMul, ns_len] at hq; exact hq.symm)))
      | ((with_reducible apply RUN_gt); (focus (intro q hq; simp only [St.get, lk, cond] at hq; exact hq.symm)))
      | ((with_reducible apply WC_draw mx); (focus (intro q hq; simp only [objNames, List.map_cons, List.map_nil, List.filter_cons, List.filter_nil, isObj, lk, cond, if_true, if_false, Bool.false_eq_true] at hq; exact hq.symm)); (focus rfl))
      | with_reducible refine RUND_nil ?_
      | ((with_reducible apply RUND_bool); (focus (intro q hq; simp only [go_sem, Nat.reduceAdd, Nat.reduceSub, Nat.reduceMul, ns_len] at hq; exact hq.symm)); (focus (intro b q hq; simp only [St.setv, lset, cond, ltb] at hq; exact hq.symm)); intro bb hb; (first | (with_reducible have h9 : true = bb := hb; clear hb; subst h9) | (with_reducible have h9 : false = bb := hb; clear hb; subst h9) | skip))
      | ((with_reducible apply RUND_n); (focus (intro q hq; simp only [go_sem, Nat.reduceAdd, Nat.reduceSub, Nat.reduceMul, ns_len] at hq; exact hq.symm)))
      | ((with_reducible apply RUND_lbool); (focus (intro q hq; simp only [laOK, List.all_cons, List.all_nil, St.get, lk, cond, AV.refs, AV.refs.refsL, memb, List.append_nil, Bool.and_true, Bool.true_and, Bool.and_self] at hq; exact hq.symm)); (focus (intro q hq; simp only [go_sem, Nat.reduceAdd, Nat.reduceSub, Nat.reduceMul, ns_len] at hq; exact hq.symm)); (focus (intro b q hq; simp only [St.setv, lset, cond, ltb] at hq; exact hq.symm)); intro bb hb; (first | (with_reducible have h9 : true = bb := hb; clear hb; subst h9) | (with_reducible have h9 : false = bb := hb; clear hb; subst h9) | skip))
      | ((with_reducible apply RUND_l); (focus (intro q hq; simp only [laOK, List.all_cons, List.all_nil, St.get, lk, cond, AV.refs, AV.refs.refsL, memb, List.append_nil, Bool.and_true, Bool.true_and, Bool.and_self] at hq; exact hq.symm)); (focus (intro q hq; simp only [go_sem, Nat.reduceAdd, Nat.reduceSub, Nat.reduceMul, ns_len] at hq; exact hq.symm)))
      | ((with_reducible apply RUND_lm); (focus (intro q hq; simp only [laOK, List.all_cons, List.all_nil, St.get, lk, cond, AV.refs, AV.refs.refsL, memb, List.append_nil, Bool.and_true, Bool.true_and, Bool.and_self] at hq; exact hq.symm)); (focus (intro q hq; simp only [go_sem, Nat.reduceAdd, Nat.reduceSub, Nat.reduceMul, ns_len] at hq; exact hq.symm)))
      | ((with_reducible apply RUND_gt); (focus (intro q hq; simp only [St.get, lk, cond] at hq; exact hq.symm)))
      | ((with_reducible apply RUND_gf); (focus (intro q hq; simp only [sameOn, laOK, List.all_cons, List.all_nil, St.get, lk, lset, cond, AV.refs, AV.refs.refsL, memb, List.append_nil, Bool.and_true, Bool.true_and, Bool.and_self, and_self, and_true, skipOK, eq_self, forall_const, implies_true, false_implies, Bool.false_and, Bool.and_false, Bool.false_eq_true] at hq; subst hq; trivial)); (focus (intro q hq; simp only [St.get, lk, cond] at hq; exact hq.symm)); (focus (intro q hq; simp only [St.setv, lset, cond, ltb] at hq; exact hq.symm)))
      | ((with_reducible apply RUND_gu); (focus (intro q hq; simp only [sameOn, laOK, List.all_cons, List.all_nil, St.get, lk, lset, cond, AV.refs, AV.refs.refsL, memb, List.append_nil, Bool.and_true, Bool.true_and, Bool.and_self, and_self, and_true, skipOK, eq_self, forall_const, implies_true, false_implies, Bool.false_and, Bool.and_false, Bool.false_eq_true] at hq; subst hq; trivial)); (focus (intro q hq; simp only [St.get, lk, cond] at hq; exact hq.symm)); (focus (intro q hq; simp only [St.setv, lset, cond, ltb] at hq; exact hq.symm)))
      | ((with_reducible apply RUND_gv); rotate_left; (focus (intro q hq; simp only [St.get, lk, cond] at hq; exact hq.symm)); (focus (intro q hq; simp only [St.setv, lset, cond, ltb] at hq; exact hq.symm)); rotate_left; rotate_left; (focus (intro q hq; simp only [sameOn, laOK, List.all_cons, List.all_nil, St.get, lk, lset, cond, AV.refs, AV.refs.refsL, memb, List.append_nil, Bool.and_true, Bool.true_and, Bool.and_self, and_self, and_true, skipOK, eq_self, forall_const, implies_true, false_implies, Bool.false_and, Bool.and_false, Bool.false_eq_true] at hq; subst hq; trivial)); intro e; (first | subst e | (simp only [Bool.not_eq_true', Bool.not_eq_false'] at e; subst e)); rotate_left; intro e; simp only [Bool.not_true, Bool.not_false, Bool.not_eq_true', Bool.not_eq_false'] at e; subst e)
      | ((with_reducible apply RUND_ch); (focus (intro q hq; simp only [go_sem, Nat.reduceAdd, Nat.reduceSub, Nat.reduceMul, ns_len] at hq; exact hq.symm)); (focus (intro q hq; simp only [sameOn, laOK, List.all_cons, List.all_nil, St.get, lk, lset, cond, AV.refs, AV.refs.refsL, memb, List.append_nil, Bool.and_true, Bool.true_and, Bool.and_self, and_self, and_true] at hq; subst hq; trivial)); (focus (intro e; first | (cases e; done) | rfl)))
      | ((with_reducible apply RUN_gf); (focus (intro q hq; simp only [St.get, lk, cond] at hq; exact hq.symm)); (focus (intro q hq; simp only [St.setv, lset, cond, ltb] at hq; exact hq.symm)))
      | ((with_reducible apply RUN_gu); (focus (intro q hq; simp only [St.get, lk, cond] at hq; exact hq.symm)); (focus (intro q hq; simp only [St.setv, lset, cond, ltb] at hq; exact hq.symm)))
      | ((with_reducible apply RUN_gv); (focus (intro q hq; simp only [St.get, lk, cond] at hq; exact hq.symm)); (focus (intro q hq; simp only [St.setv, lset, cond, ltb] at hq; exact hq.symm)); intro e; (first | subst e | (simp only [Bool.not_eq_true', Bool.not_eq_false'] at e; subst e)); rotate_left; intro e; simp only [Bool.not_true, Bool.not_false, Bool.not_eq_true', Bool.not_eq_false'] at e; subst e)
      | ((with_reducible apply RUN_ct); (focus (intro q hq; simp only [St.ev, St.get, lk, cond, ofConst] at hq; exact hq.symm)))
      | ((with_reducible apply RUN_cf); (focus (intro q hq; simp only [St.ev, St.get, lk, cond, ofConst] at hq; exact hq.symm)))
      | ((with_reducible apply RUN_phi); (focus (intro q hq; simp only [St.ev, St.get, lk, cond, ofConst] at hq; exact hq.symm)); (focus (intro q hq; simp only [runP, go_sem, Nat.reduceAdd, Nat.reduceSub, Nat.reduceMul, ns_len] at hq; exact hq.symm)); (focus (intro q hq; simp only [phiS, phiAV, phiD, dstsOf, app, lset, St.get, lk, cond, decide_true, if_true] at hq; exact hq.symm)))
      | ((with_reducible apply RUN_phi2); (focus (intro q hq; simp only [St.ev, St.get, lk, cond, ofConst] at hq; exact hq.symm)); (focus (intro q hq; simp only [runP, go_sem, Nat.reduceAdd, Nat.reduceSub, Nat.reduceMul, ns_len] at hq; exact hq.symm)); (focus (intro q hq; simp only [runP, go_sem, Nat.reduceAdd, Nat.reduceSub, Nat.reduceMul, ns_len] at hq; exact hq.symm)); (focus (intro q hq; simp only [phiS, phiAV, phiD, dstsOf, app, lset, St.get, lk, cond, decide_true, if_true] at hq; exact hq.symm)))
      | ((with_reducible apply RUN_cv); (focus (intro q hq; simp only [St.ev, St.get, lk, cond, ofConst] at hq; exact hq.symm)); all_goals (intro e; first | cases e | (simp only [Bool.not_eq_true', Bool.not_eq_false'] at e; subst e) | skip)))
    · have hi : i < l.length := by simpa using hb
      obtain ⟨p, hp⟩ : ∃ p, l[i]? = some p := ⟨_, List.getElem?_eq_getElem hi⟩
      have hw := w64_one (i := i) (by omega)
      repeat' (first
        | with_reducible refine WC_seq ?_
        | with_reducible refine WC_region ?_
        | with_reducible refine WC_skip ?_
        | with_reducible refine WC_ret ?_
        | with_reducible refine WC_exit ?_
        | with_reducible refine WC_block ?_
        | with_reducible refine thenQ_n ?_
        | with_reducible refine thenQ_r ?_
        | with_reducible refine thenQ_e ?_
        | with_reducible refine blockQ_n ?_
        | with_reducible refine blockQ_r ?_
        | with_reducible refine blockQ_e ?_
        | with_reducible refine blockQ_o rfl ?_
        | with_reducible refine WRs_nil ?_
        | ((with_reducible apply RUN_bool); (focus (intro q hq; simp only [go_sem, Nat.reduceAdd, Nat.reduceSub, Nat.reduceMul, ns_len, ns_get, hp, Option.map_some] at hq; exact hq.symm)); (focus (intro b q hq; simp only [St.setv, lset, cond, ltb] at hq; exact hq.symm)); intro bb hb; (first | (with_reducible have h9 : true = bb := hb; clear hb; subst h9) | (with_reducible have h9 : false = bb := hb; clear hb; subst h9) | skip))
        | ((with_reducible apply WRs_nil2); (focus (intro q hq; simp only [nilS, isSl, isConstNil, St.ev, St.get, lk, cond, Bool.and_true, Bool.and_self, tk_22, tk_23, tk_26, tk_27, tk_3, tk_30, tk_4, tk_46, tk_47, tk_9] at hq; exact hq.symm)); (focus (intro b q hq; simp only [St.setv, lset, cond, ltb] at hq; exact hq.symm)); intro bb hb; (first | (with_reducible have h9 : true = bb := hb; clear hb; subst h9) | (with_reducible have h9 : false = bb := hb; clear hb; subst h9) | skip))
        | ((with_reducible apply RUN_n); (focus (intro q hq; simp only [go_sem, Nat.reduceAdd, Nat.reduceSub, Nat.reduceMul, ns_len, ns_get, hp, Option.map_some] at hq; exact hq.symm)))
        | ((with_reducible apply RUN_gt); (focus (intro q hq; simp only [St.get, lk, cond] at hq; exact hq.symm)))
        | ((with_reducible apply WC_draw mx); (focus (intro q hq; simp only [objNames, List.map_cons, List.map_nil, List.filter_cons, List.filter_nil, isObj, lk, cond, if_true, if_false, Bool.false_eq_true] at hq; exact hq.symm)); (focus rfl))
        | with_reducible refine RUND_nil ?_
        | ((with_reducible apply RUND_bool); (focus (intro q hq; simp only [go_sem, Nat.reduceAdd, Nat.reduceSub, Nat.reduceMul, ns_len, ns_get, hp, Option.map_some] at hq; exact hq.symm)); (focus (intro b q hq; simp only [St.setv, lset, cond, ltb] at hq; exact hq.symm)); intro bb hb; (first | (with_reducible have h9 : true = bb := hb; clear hb; subst h9) | (with_reducible have h9 : false = bb := hb; clear hb; subst h9) | skip))
        | ((with_reducible apply RUND_n); (focus (intro q hq; simp only [go_sem, Nat.reduceAdd, Nat.reduceSub, Nat.reduceMul, ns_len, ns_get, hp, Option.map_some] at hq; exact hq.symm)))
        | ((with_reducible apply RUND_lbool); (focus (intro q hq; simp only [laOK, List.all_cons, List.all_nil, St.get, lk, cond, AV.refs, AV.refs.refsL, memb, List.append_nil, Bool.and_true, Bool.true_and, Bool.and_self] at hq; exact hq.symm)); (focus (intro q hq; simp only [go_sem, Nat.reduceAdd, Nat.reduceSub, Nat.reduceMul, ns_len, ns_get, hp, Option.map_some] at hq; exact hq.symm)); (focus (intro b q hq; simp only [St.setv, lset, cond, ltb] at hq; exact hq.symm)); intro bb hb; (first | (with_reducible have h9 : true = bb := hb; clear hb; subst h9) | (with_reducible have h9 : false = bb := hb; clear hb; subst h9) | skip))
        | ((with_reducible apply RUND_l); (focus (intro q hq; simp only [laOK, List.all_cons, List.all_nil, St.get, lk, cond, AV.refs, AV.refs.refsL, memb, List.append_nil, Bool.and_true, Bool.true_and, Bool.and_self] at hq; exact hq.symm)); (focus (intro q hq; simp only [go_sem, Nat.reduceAdd, Nat.reduceSub, Nat.reduceMul, ns_len, ns_get, hp, Option.map_some] at hq; exact hq.symm)))
        | ((with_reducible apply RUND_lm); (focus (intro q hq; simp only [laOK, List.all_cons, List.all_nil, St.get, lk, cond, AV.refs, AV.refs.refsL, memb, List.append_nil, Bool.and_true, Bool.true_and, Bool.and_self] at hq; exact hq.symm)); (focus (intro q hq; simp only [go_sem, Nat.reduceAdd, Nat.reduceSub, Nat.reduceMul, ns_len, ns_get, hp, Option.map_some] at hq; exact hq.symm)))
        | ((with_reducible apply RUND_gt); (focus (intro q hq; simp only [St.get, lk, cond] at hq; exact hq.symm)))
        | ((with_reducible apply RUND_gf); (focus (intro q hq; simp only [sameOn, laOK, List.all_cons, List.all_nil, St.get, lk, lset, cond, AV.refs, AV.refs.refsL, memb, List.append_nil, Bool.and_true, Bool.true_and, Bool.and_self, and_self, and_true, skipOK, eq_self, forall_const, implies_true, false_implies, Bool.false_and, Bool.and_false, Bool.false_eq_true] at hq; subst hq; trivial)); (focus (intro q hq; simp only [St.get, lk, cond] at hq; exact hq.symm)); (focus (intro q hq; simp only [St.setv, lset, cond, ltb] at hq; exact hq.symm)))
        | ((with_reducible apply RUND_gu); (focus (intro q hq; simp only [sameOn, laOK, List.all_cons, List.all_nil, St.get, lk, lset, cond, AV.refs, AV.refs.refsL, memb, List.append_nil, Bool.and_true, Bool.true_and, Bool.and_self, and_self, and_true, skipOK, eq_self, forall_const, implies_true, false_implies, Bool.false_and, Bool.and_false, Bool.false_eq_true] at hq; subst hq; trivial)); (focus (intro q hq; simp only [St.get, lk, cond] at hq; exact hq.symm)); (focus (intro q hq; simp only [St.setv, lset, cond, ltb] at hq; exact hq.symm)))
        | ((with_reducible apply RUND_gv); rotate_left; (focus (intro q hq; simp only [St.get, lk, cond] at hq; exact hq.symm)); (focus (intro q hq; simp only [St.setv, lset, cond, ltb] at hq; exact hq.symm)); rotate_left; rotate_left; (focus (intro q hq; simp only [sameOn, laOK, List.all_cons, List.all_nil, St.get, lk, lset, cond, AV.refs, AV.refs.refsL, memb, List.append_nil, Bool.and_true, Bool.true_and, Bool.and_self, and_self, and_true, skipOK, eq_self, forall_const, implies_true, false_implies, Bool.false_and, Bool.and_false, Bool.false_eq_true] at hq; subst hq; trivial)); intro e; (first | subst e | (simp only [Bool.not_eq_true', Bool.not_eq_false'] at e; subst e)); rotate_left; intro e; simp only [Bool.not_true, Bool.not_false, Bool.not_eq_true', Bool.not_eq_false'] at e; subst e)
        | ((with_reducible apply RUND_ch); (focus (intro q hq; simp only [go_sem, Nat.reduceAdd, Nat.reduceSub, Nat.reduceMul, ns_len, ns_get, hp, Option.map_some] at hq; exact hq.symm)); (focus (intro q hq; simp only [sameOn, laOK, List.all_cons, List.all_nil, St.get, lk, lset, cond, AV.refs, AV.refs.refsL, memb, List.append_nil, Bool.and_true, Bool.true_and, Bool.and_self, and_self, and_true] at hq; subst hq; trivial)); (focus (intro e; first | (cases e; done) | rfl)))
        | ((with_reducible apply RUN_gf); (focus (intro q hq; simp only [St.get, lk, cond] at hq; exact hq.symm)); (focus (intro q hq; simp only [St.setv, lset, cond, ltb] at hq; exact hq.symm)))
        | ((with_reducible apply RUN_gu); (focus (intro q hq; simp only [St.get, lk, cond] at hq; exact hq.symm)); (focus (intro q hq; simp only [St.setv, lset, cond, ltb] at hq; exact hq.symm)))
        | ((with_reducible apply RUN_gv); (focus (intro q hq; simp only [St.get, lk, cond] at hq; exact hq.symm)); (focus (intro q hq; simp only [St.setv, lset, cond, ltb] at hq; exact hq.symm)); intro e; (first | subst e | (simp only [Bool.not_eq_true', Bool.not_eq_false'] at e; subst e)); rotate_left; intro e; simp only [Bool.not_true, Bool.not_false, Bool.not_eq_true', Bool.not_eq_false'] at e; subst e)
        | ((with_reducible apply RUN_ct); (focus (intro q hq; simp only [St.ev, St.get, lk, cond, ofConst] at hq; exact hq.symm)))
        | ((with_reducible apply RUN_cf); (focus (intro q hq; simp only [St.ev, St.get, lk, cond, ofConst] at hq; exact hq.symm)))
        | ((with_reducible apply RUN_phi); (focus (intro q hq; simp only [St.ev, St.get, lk, cond, ofConst] at hq; exact hq.symm)); (focus (intro q hq; simp only [runP, go_sem, Nat.reduceAdd, Nat.reduceSub, Nat.reduceMul, ns_len, ns_get, hp, Option.map_some] at hq; exact hq.symm)); (focus (intro q hq; simp only [phiS, phiAV, phiD, dstsOf, app, lset, St.get, lk, cond, decide_true, if_true] at hq; exact hq.symm)))
        | ((with_reducible apply RUN_phi2); (focus (intro q hq; simp only [St.ev, St.get, lk, cond, ofConst] at hq; exact hq.symm)); (focus (intro q hq; simp only [runP, go_sem, Nat.reduceAdd, Nat.reduceSub, Nat.reduceMul, ns_len, ns_get, hp, Option.map_some] at hq; exact hq.symm)); (focus (intro q hq; simp only [runP, go_sem, Nat.reduceAdd, Nat.reduceSub, Nat.reduceMul, ns_len, ns_get, hp, Option.map_some] at hq; exact hq.symm)); (focus (intro q hq; simp only [phiS, phiAV, phiD, dstsOf, app, lset, St.get, lk, cond, decide_true, if_true] at hq; exact hq.symm)))
        | ((with_reducible apply RUN_cv); (focus (intro q hq; simp only [St.ev, St.get, lk, cond, ofConst] at hq; exact hq.symm)); all_goals (intro e; first | cases e | (simp only [Bool.not_eq_true', Bool.not_eq_false'] at e; subst e) | skip)))
      · skip
        (with_reducible apply RUN_ret)
        (focus (intro q hq; simp only [aret, arets, St.get, lk, cond] at hq; exact hq.symm))
        (focus (intro q hq; simp only [keepL, memb, cond] at hq; exact hq.symm))
        (try refine ⟨?_, rfl⟩)
        (try with_reducible rfl)
        rw [risesF_f hi (by simp only [riseAt, hp]; simp at *; simp [*])]
      · refine ⟨i + 1, ⟨by omega, step_all hI2 (by simp only [riseAt, hp]; simp at *; omega)⟩, by omega, ?_⟩
        (intro q hq; simp only [St.keep, keepL, memb, cond, Bool.false_eq_true, if_false] at hq; subst hq; first | rfl | (simp only [hw]; done) | (simp only [hw]; rfl))
      · have h0 : 0 < i := by simpa using hb
        obtain ⟨y, hy⟩ : ∃ y, l[i - 1]? = some y := ⟨_, List.getElem?_eq_getElem (by omega)⟩
        have hwp := w64_pred (i := i) (by omega) h0
        repeat' (first
          | with_reducible refine WC_seq ?_
          | with_reducible refine WC_region ?_
          | with_reducible refine WC_skip ?_
          | with_reducible refine WC_ret ?_
          | with_reducible refine WC_exit ?_
          | with_reducible refine WC_block ?_
          | with_reducible refine thenQ_n ?_
          | with_reducible refine thenQ_r ?_
          | with_reducible refine thenQ_e ?_
          | with_reducible refine blockQ_n ?_
          | with_reducible refine blockQ_r ?_
          | with_reducible refine blockQ_e ?_
          | with_reducible refine blockQ_o rfl ?_
          | with_reducible refine WRs_nil ?_
          | ((with_reducible apply RUN_bool); (focus (intro q hq; simp only [go_sem, Nat.reduceAdd, Nat.reduceSub, Nat.reduceMul, ns_len, ns_get, hp, Option.map_some, hwp, hy] at hq; exact hq.symm)); (focus (intro b q hq; simp only [St.setv, lset, cond, ltb] at hq; exact hq.symm)); intro bb hb; (first | (with_reducible have h9 : true = bb := hb; clear hb; subst h9) | (with_reducible have h9 : false = bb := hb; clear hb; subst h9) | skip))
          | ((with_reducible apply WRs_nil2); (focus (intro q hq; simp only [nilS, isSl, isConstNil, St.ev, St.get, lk, cond, Bool.and_true, Bool.and_self, tk_22, tk_23, tk_26, tk_27, tk_3, tk_30, tk_4, tk_46, tk_47, tk_9] at hq; exact hq.symm)); (focus (intro b q hq; simp only [St.setv, lset, cond, ltb] at hq; exact hq.symm)); intro bb hb; (first | (with_reducible have h9 : true = bb := hb; clear hb; subst h9) | (with_reducible have h9 : false = bb := hb; clear hb; subst h9) | skip))
          | ((with_reducible apply RUN_n); (focus (intro q hq; simp only [go_sem, Nat.reduceAdd, Nat.reduceSub, Nat.reduceMul, ns_len, ns_get, hp, Option.map_some, hwp, hy] at hq; exact hq.symm)))
          | ((with_reducible apply RUN_gt); (focus (intro q hq; simp only [St.get, lk, cond] at hq; exact hq.symm)))
          | ((with_reducible apply WC_draw mx); (focus (intro q hq; simp only [objNames, List.map_cons, List.map_nil, List.filter_cons, List.filter_nil, isObj, lk, cond, if_true, if_false, Bool.false_eq_true] at hq; exact hq.symm)); (focus rfl))
          | with_reducible refine RUND_nil ?_
          | ((with_reducible apply RUND_bool); (focus (intro q hq; simp only [go_sem, Nat.reduceAdd, Nat.reduceSub, Nat.reduceMul, ns_len, ns_get, hp, Option.map_some, hwp, hy] at hq; exact hq.symm)); (focus (intro b q hq; simp only [St.setv, lset, cond, ltb] at hq; exact hq.symm)); intro bb hb; (first | (with_reducible have h9 : true = bb := hb; clear hb; subst h9) | (with_reducible have h9 : false = bb := hb; clear hb; subst h9) | skip))
          | ((with_reducible apply RUND_n); (focus (intro q hq; simp only [go_sem, Nat.reduceAdd, Nat.reduceSub, Nat.reduceMul, ns_len, ns_get, hp, Option.map_some, hwp, hy] at hq; exact hq.symm)))
          | ((with_reducible apply RUND_lbool); (focus (intro q hq; simp only [laOK, List.all_cons, List.all_nil, St.get, lk, cond, AV.refs, AV.refs.refsL, memb, List.append_nil, Bool.and_true, Bool.true_and, Bool.and_self] at hq; exact hq.symm)); (focus (intro q hq; simp only [go_sem, Nat.reduceAdd, Nat.reduceSub, Nat.reduceMul, ns_len, ns_get, hp, Option.map_some, hwp, hy] at hq; exact hq.symm)); (focus (intro b q hq; simp only [St.setv, lset, cond, ltb] at hq; exact hq.symm)); intro bb hb; (first | (with_reducible have h9 : true = bb := hb; clear hb; subst h9) | (with_reducible have h9 : false = bb := hb; clear hb; subst h9) | skip))
          | ((with_reducible apply RUND_l); (focus (intro q hq; simp only [laOK, List.all_cons, List.all_nil, St.get, lk, cond, AV.refs, AV.refs.refsL, memb, List.append_nil, Bool.and_true, Bool.true_and, Bool.and_self] at hq; exact hq.symm)); (focus (intro q hq; simp only [go_sem, Nat.reduceAdd, Nat.reduceSub, Nat.reduceMul, ns_len, ns_get, hp, Option.map_some, hwp, hy] at hq; exact hq.symm)))
          | ((with_reducible apply RUND_lm); (focus (intro q hq; simp only [laOK, List.all_cons, List.all_nil, St.get, lk, cond, AV.refs, AV.refs.refsL, memb, List.append_nil, Bool.and_true, Bool.true_and, Bool.and_self] at hq; exact hq.symm)); (focus (intro q hq; simp only [go_sem, Nat.reduceAdd, Nat.reduceSub, Nat.reduceMul, ns_len, ns_get, hp, Option.map_some, hwp, hy] at hq; exact hq.symm)))
          | ((with_reducible apply RUND_gt); (focus (intro q hq; simp only [St.get, lk, cond] at hq; exact hq.symm)))
          | ((with_reducible apply RUND_gf); (focus (intro q hq; simp only [sameOn, laOK, List.all_cons, List.all_nil, St.get, lk, lset, cond, AV.refs, AV.refs.refsL, memb, List.append_nil, Bool.and_true, Bool.true_and, Bool.and_self, and_self, and_true, skipOK, eq_self, forall_const, implies_true, false_implies, Bool.false_and, Bool.and_false, Bool.false_eq_true] at hq; subst hq; trivial)); (focus (intro q hq; simp only [St.get, lk, cond] at hq; exact hq.symm)); (focus (intro q hq; simp only [St.setv, lset, cond, ltb] at hq; exact hq.symm)))
          | ((with_reducible apply RUND_gu); (focus (intro q hq; simp only [sameOn, laOK, List.all_cons, List.all_nil, St.get, lk, lset, cond, AV.refs, AV.refs.refsL, memb, List.append_nil, Bool.and_true, Bool.true_and, Bool.and_self, and_self, and_true, skipOK, eq_self, forall_const, implies_true, false_implies, Bool.false_and, Bool.and_false, Bool.false_eq_true] at hq; subst hq; trivial)); (focus (intro q hq; simp only [St.get, lk, cond] at hq; exact hq.symm)); (focus (intro q hq; simp only [St.setv, lset, cond, ltb] at hq; exact hq.symm)))
          | ((with_reducible apply RUND_gv); rotate_left; (focus (intro q hq; simp only [St.get, lk, cond] at hq; exact hq.symm)); (focus (intro q hq; simp only [St.setv, lset, cond, ltb] at hq; exact hq.symm)); rotate_left; rotate_left; (focus (intro q hq; simp only [sameOn, laOK, List.all_cons, List.all_nil, St.get, lk, lset, cond, AV.refs, AV.refs.refsL, memb, List.append_nil, Bool.and_true, Bool.true_and, Bool.and_self, and_self, and_true, skipOK, eq_self, forall_const, implies_true, false_implies, Bool.false_and, Bool.and_false, Bool.false_eq_true] at hq; subst hq; trivial)); intro e; (first | subst e | (simp only [Bool.not_eq_true', Bool.not_eq_false'] at e; subst e)); rotate_left; intro e; simp only [Bool.not_true, Bool.not_false, Bool.not_eq_true', Bool.not_eq_false'] at e; subst e)
          | ((with_reducible apply RUND_ch); (focus (intro q hq; simp only [go_sem, Nat.reduceAdd, Nat.reduceSub, Nat.reduceMul, ns_len, ns_get, hp, Option.map_some, hwp, hy] at hq; exact hq.symm)); (focus (intro q hq; simp only [sameOn, laOK, List.all_cons, List.all_nil, St.get, lk, lset, cond, AV.refs, AV.refs.refsL, memb, List.append_nil, Bool.and_true, Bool.true_and, Bool.and_self, and_self, and_true] at hq; subst hq; trivial)); (focus (intro e; first | (cases e; done) | rfl)))
          | ((with_reducible apply RUN_gf); (focus (intro q hq; simp only [St.get, lk, cond] at hq; exact hq.symm)); (focus (intro q hq; simp only [St.setv, lset, cond, ltb] at hq; exact hq.symm)))
          | ((with_reducible apply RUN_gu); (focus (intro q hq; simp only [St.get, lk, cond] at hq; exact hq.symm)); (focus (intro q hq; simp only [St.setv, lset, cond, ltb] at hq; exact hq.symm)))
          | ((with_reducible apply RUN_gv); (focus (intro q hq; simp only [St.get, lk, cond] at hq; exact hq.symm)); (focus (intro q hq; simp only [St.setv, lset, cond, ltb] at hq; exact hq.symm)); intro e; (first | subst e | (simp only [Bool.not_eq_true', Bool.not_eq_false'] at e; subst e)); rotate_left; intro e; simp only [Bool.not_true, Bool.not_false, Bool.not_eq_true', Bool.not_eq_false'] at e; subst e)
          | ((with_reducible apply RUN_ct); (focus (intro q hq; simp only [St.ev, St.get, lk, cond, ofConst] at hq; exact hq.symm)))
          | ((with_reducible apply RUN_cf); (focus (intro q hq; simp only [St.ev, St.get, lk, cond, ofConst] at hq; exact hq.symm)))
          | ((with_reducible apply RUN_phi); (focus (intro q hq; simp only [St.ev, St.get, lk, cond, ofConst] at hq; exact hq.symm)); (focus (intro q hq; simp only [runP, go_sem, Nat.reduceAdd, Nat.reduceSub, Nat.reduceMul, ns_len, ns_get, hp, Option.map_some, hwp, hy] at hq; exact hq.symm)); (focus (intro q hq; simp only [phiS, phiAV, phiD, dstsOf, app, lset, St.get, lk, cond, decide_true, if_true] at hq; exact hq.symm)))
          | ((with_reducible apply RUN_phi2); (focus (intro q hq; simp only [St.ev, St.get, lk, cond, ofConst] at hq; exact hq.symm)); (focus (intro q hq; simp only [runP, go_sem, Nat.reduceAdd, Nat.reduceSub, Nat.reduceMul, ns_len, ns_get, hp, Option.map_some, hwp, hy] at hq; exact hq.symm)); (focus (intro q hq; simp only [runP, go_sem, Nat.reduceAdd, Nat.reduceSub, Nat.reduceMul, ns_len, ns_get, hp, Option.map_some, hwp, hy] at hq; exact hq.symm)); (focus (intro q hq; simp only [phiS, phiAV, phiD, dstsOf, app, lset, St.get, lk, cond, decide_true, if_true] at hq; exact hq.symm)))
          | ((with_reducible apply RUN_cv); (focus (intro q hq; simp only [St.ev, St.get, lk, cond, ofConst] at hq; exact hq.symm)); all_goals (intro e; first | cases e | (simp only [Bool.not_eq_true', Bool.not_eq_false'] at e; subst e) | skip)))
        · skip
          (with_reducible apply RUN_ret)
          (focus (intro q hq; simp only [aret, arets, St.get, lk, cond] at hq; exact hq.symm))
          (focus (intro q hq; simp only [keepL, memb, cond] at hq; exact hq.symm))
          (try refine ⟨?_, rfl⟩)
          (try with_reducible rfl)
          rw [risesF_f hi (by simp only [riseAt, hp, hy]; simp at *; omega)]
        · refine ⟨i + 1, ⟨by omega, step_all hI2 (by simp only [riseAt, hp, hy]; simp at *; omega)⟩, by omega, ?_⟩
          (intro q hq; simp only [St.keep, keepL, memb, cond, Bool.false_eq_true, if_false] at hq; subst hq; first | rfl | (simp only [hw]; done) | (simp only [hw]; rfl))
    · skip
      repeat' (first
        | with_reducible refine WC_seq ?_
        | with_reducible refine WC_region ?_
        | with_reducible refine WC_skip ?_
        | with_reducible refine WC_ret ?_
        | with_reducible refine WC_exit ?_
        | with_reducible refine WC_block ?_
        | with_reducible refine thenQ_n ?_
        | with_reducible refine thenQ_r ?_
        | with_reducible refine thenQ_e ?_
        | with_reducible refine blockQ_n ?_
        | with_reducible refine blockQ_r ?_
        | with_reducible refine blockQ_e ?_
        | with_reducible refine blockQ_o rfl ?_
        | with_reducible refine WRs_nil ?_
        | ((with_reducible apply RUN_bool); (focus (intro q hq; simp only [go_sem, Nat.reduceAdd, Nat.reduceSub, Nat.reduceMul] at hq; exact hq.symm)); (focus (intro b q hq; simp only [St.setv, lset, cond, ltb] at hq; exact hq.symm)); intro bb hb; (first | (with_reducible have h9 : true = bb := hb; clear hb; subst h9) | (with_reducible have h9 : false = bb := hb; clear hb; subst h9) | skip))
        | ((with_reducible apply WRs_nil2); (focus (intro q hq; simp only [nilS, isSl, isConstNil, St.ev, St.get, lk, cond, Bool.and_true, Bool.and_self, tk_22, tk_23, tk_26, tk_27, tk_3, tk_30, tk_4, tk_46, tk_47, tk_9] at hq; exact hq.symm)); (focus (intro b q hq; simp only [St.setv, lset, cond, ltb] at hq; exact hq.symm)); intro bb hb; (first | (with_reducible have h9 : true = bb := hb; clear hb; subst h9) | (with_reducible have h9 : false = bb := hb; clear hb; subst h9) | skip))
        | ((with_reducible apply RUN_n); (focus (intro q hq; simp only [go_sem, Nat.reduceAdd, Nat.reduceSub, Nat.reduceMul] at hq; exact hq.symm)))
        | ((with_reducible apply RUN_gt); (focus (intro q hq; simp only [St.get, lk, cond] at hq; exact hq.symm)))
        | ((with_reducible apply WC_draw mx); (focus (intro q hq; simp only [objNames, List.map_cons, List.map_nil, List.filter_cons, List.filter_nil, isObj, lk, cond, if_true, if_false, Bool.false_eq_true] at hq; exact hq.symm)); (focus rfl))
        | with_reducible refine RUND_nil ?_
        | ((with_reducible apply RUND_bool); (focus (intro q hq; simp only [go_sem, Nat.reduceAdd, Nat.reduceSub, Nat.reduceMul] at hq; exact hq.symm)); (focus (intro b q hq; simp only [St.setv, lset, cond, ltb] at hq; exact hq.symm)); intro bb hb; (first | (with_reducible have h9 : true = bb := hb; clear hb; subst h9) | (with_reducible have h9 : false = bb := hb; clear hb; subst h9) | skip))
        | ((with_reducible apply RUND_n); (focus (intro q hq; simp only [go_sem, Nat.reduceAdd, Nat.reduceSub, Nat.reduceMul] at hq; exact hq.symm)))
        | ((with_reducible apply RUND_lbool); (focus (intro q hq; simp only [laOK, List.all_cons, List.all_nil, St.get, lk, cond, AV.refs, AV.refs.refsL, memb, List.append_nil, Bool.and_true, Bool.true_and, Bool.and_self] at hq; exact hq.symm)); (focus (intro q hq; simp only [go_sem, Nat.reduceAdd, Nat.reduceSub, Nat.reduceMul] at hq; exact hq.symm)); (focus (intro b q hq; simp only [St.setv, lset, cond, ltb] at hq; exact hq.symm)); intro bb hb; (first | (with_reducible have h9 : true = bb := hb; clear hb; subst h9) | (with_reducible have h9 : false = bb := hb; clear hb; subst h9) | skip))
        | ((with_reducible apply RUND_l); (focus (intro q hq; simp only [laOK, List.all_cons, List.all_nil, St.get, lk, cond, AV.refs, AV.refs.refsL, memb, List.append_nil, Bool.and_true, Bool.true_and, Bool.and_self] at hq; exact hq.symm)); (focus (intro q hq; simp only [go_sem, Nat.reduceAdd, Nat.reduceSub, Nat.reduceMul] at hq; exact hq.symm)))
        | ((with_reducible apply RUND_lm); (focus (intro q hq; simp only [laOK, List.all_cons, List.all_nil, St.get, lk, cond, AV.refs, AV.refs.refsL, memb, List.append_nil, Bool.and_true, Bool.true_and, Bool.and_self] at hq; exact hq.symm)); (focus (intro q hq; simp only [go_sem, Nat.reduceAdd, Nat.reduceSub, Nat.reduceMul] at hq; exact hq.symm)))
        | ((with_reducible apply RUND_gt); (focus (intro q hq; simp only [St.get, lk, cond] at hq; exact hq.symm)))
        | ((with_reducible apply RUND_gf); (focus (intro q hq; simp only [sameOn, laOK, List.all_cons, List.all_nil, St.get, lk, lset, cond, AV.refs, AV.refs.refsL, memb, List.append_nil, Bool.and_true, Bool.true_and, Bool.and_self, and_self, and_true, skipOK, eq_self, forall_const, implies_true, false_implies, Bool.false_and, Bool.and_false, Bool.false_eq_true] at hq; subst hq; trivial)); (focus (intro q hq; simp only [St.get, lk, cond] at hq; exact hq.symm)); (focus (intro q hq; simp only [St.setv, lset, cond, ltb] at hq; exact hq.symm)))
        | ((with_reducible apply RUND_gu); (focus (intro q hq; simp only [sameOn, laOK, List.all_cons, List.all_nil, St.get, lk, lset, cond, AV.refs, AV.refs.refsL, memb, List.append_nil, Bool.and_true, Bool.true_and, Bool.and_self, and_self, and_true, skipOK, eq_self, forall_const, implies_true, false_implies, Bool.false_and, Bool.and_false, Bool.false_eq_true] at hq; subst hq; trivial)); (focus (intro q hq; simp only [St.get, lk, cond] at hq; exact hq.symm)); (focus (intro q hq; simp only [St.setv, lset, cond, ltb] at hq; exact hq.symm)))
        | ((with_reducible apply RUND_gv); rotate_left; (focus (intro q hq; simp only [St.get, lk, cond] at hq; exact hq.symm)); (focus (intro q hq; simp only [St.setv, lset, cond, ltb] at hq; exact hq.symm)); rotate_left; rotate_left; (focus (intro q hq; simp only [sameOn, laOK, List.all_cons, List.all_nil, St.get, lk, lset, cond, AV.refs, AV.refs.refsL, memb, List.append_nil, Bool.and_true, Bool.true_and, Bool.and_self, and_self, and_true, skipOK, eq_self, forall_const, implies_true, false_implies, Bool.false_and, Bool.and_false, Bool.false_eq_true] at hq; subst hq; trivial)); intro e; (first | subst e | (simp only [Bool.not_eq_true', Bool.not_eq_false'] at e; subst e)); rotate_left; intro e; simp only [Bool.not_true, Bool.not_false, Bool.not_eq_true', Bool.not_eq_false'] at e; subst e)
        | ((with_reducible apply RUND_ch); (focus (intro q hq; simp only [go_sem, Nat.reduceAdd, Nat.reduceSub, Nat.reduceMul] at hq; exact hq.symm)); (focus (intro q hq; simp only [sameOn, laOK, List.all_cons, List.all_nil, St.get, lk, lset, cond, AV.refs, AV.refs.refsL, memb, List.append_nil, Bool.and_true, Bool.true_and, Bool.and_self, and_self, and_true] at hq; subst hq; trivial)); (focus (intro e; first | (cases e; done) | rfl)))
        | ((with_reducible apply RUN_gf); (focus (intro q hq; simp only [St.get, lk, cond] at hq; exact hq.symm)); (focus (intro q hq; simp only [St.setv, lset, cond, ltb] at hq; exact hq.symm)))
        | ((with_reducible apply RUN_gu); (focus (intro q hq; simp only [St.get, lk, cond] at hq; exact hq.symm)); (focus (intro q hq; simp only [St.setv, lset, cond, ltb] at hq; exact hq.symm)))
        | ((with_reducible apply RUN_gv); (focus (intro q hq; simp only [St.get, lk, cond] at hq; exact hq.symm)); (focus (intro q hq; simp only [St.setv, lset, cond, ltb] at hq; exact hq.symm)); intro e; (first | subst e | (simp only [Bool.not_eq_true', Bool.not_eq_false'] at e; subst e)); rotate_left; intro e; simp only [Bool.not_true, Bool.not_false, Bool.not_eq_true', Bool.not_eq_false'] at e; subst e)
        | ((with_reducible apply RUN_ct); (focus (intro q hq; simp only [St.ev, St.get, lk, cond, ofConst] at hq; exact hq.symm)))
        | ((with_reducible apply RUN_cf); (focus (intro q hq; simp only [St.ev, St.get, lk, cond, ofConst] at hq; exact hq.symm)))
        | ((with_reducible apply RUN_phi); (focus (intro q hq; simp only [St.ev, St.get, lk, cond, ofConst] at hq; exact hq.symm)); (focus (intro q hq; simp only [runP, go_sem, Nat.reduceAdd, Nat.reduceSub, Nat.reduceMul] at hq; exact hq.symm)); (focus (intro q hq; simp only [phiS, phiAV, phiD, dstsOf, app, lset, St.get, lk, cond, decide_true, if_true] at hq; exact hq.symm)))
        | ((with_reducible apply RUN_phi2); (focus (intro q hq; simp only [St.ev, St.get, lk, cond, ofConst] at hq; exact hq.symm)); (focus (intro q hq; simp only [runP, go_sem, Nat.reduceAdd, Nat.reduceSub, Nat.reduceMul] at hq; exact hq.symm)); (focus (intro q hq; simp only [runP, go_sem, Nat.reduceAdd, Nat.reduceSub, Nat.reduceMul] at hq; exact hq.symm)); (focus (intro q hq; simp only [phiS, phiAV, phiD, dstsOf, app, lset, St.get, lk, cond, decide_true, if_true] at hq; exact hq.symm)))
        | ((with_reducible apply RUN_cv); (focus (intro q hq; simp only [St.ev, St.get, lk, cond, ofConst] at hq; exact hq.symm)); all_goals (intro e; first | cases e | (simp only [Bool.not_eq_true', Bool.not_eq_false'] at e; subst e) | skip)))
      (with_reducible apply RUN_ret)
      (focus (intro q hq; simp only [aret, arets, St.get, lk, cond] at hq; exact hq.symm))
      (focus (intro q hq; simp only [keepL, memb, cond] at hq; exact hq.symm))
      (try refine ⟨?_, rfl⟩)
      (try with_reducible rfl)
      rw [risesF_t fun j hj => hI2 j (by simp at hb; omega)]
end Go.Proofs.Ythmiekppdhmbiaa
