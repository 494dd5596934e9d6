import Derived.Test.YthmiekppdhmbiaaC24T10
set_option maxRecDepth 100000
set_option linter.unusedVariables false
set_option linter.unusedSimpArgs false
namespace Go.Proofs.Ythmiekppdhmbiaa
open Go.Wl
attribute [local irreducible] WRs WDs WC
attribute [local go_sem] Value.cells List.toList_toArray aappend apSrc abuildS abuildS.go List.all_cons List.all_nil St.untag AV.untag AV.untag.untagL Ob.untag tmMap hpMap aopS aop ob St.setv St.ev St.get lk lset cond ltb ofConst ofConst.ofConst0 ank apick afield aload AV.part AV.aggOf afieldV astore AV.cells? AV.one D.one splice aext aun alen AV.list aconv acv abuiltin AV.toD AV.toD.toDL List.map Option.map abin aint ashift astr isConstNil nilOf aindex2 aindexV2 aslice2 asliceL2 ibnd2 aminmax List.take List.drop List.append Nat.zero_add Nat.add_zero List.nil_append List.cons_append List.length_cons List.length_nil List.getElem?_cons_zero List.getElem?_cons_succ List.all_cons List.all_nil Bool.and_true Bool.true_and if_true Bool.not_true Bool.not_false Bool.false_or Bool.or_false St.nmOf freshC freshN anewN abox aalloc anew tmHas hpHas ldel Ob.has AV.has AV.has.hasL unbytes_u8 wd_int cl_int wd_bool cl_bool wd_str cl_str wd_nilp cl_nilp wd_nilfunc cl_nilfunc wd_nilif cl_nilif wd_list cl_list wd_cptr cl_cptr wd_iface cl_iface wd_func cl_func wd_agg cl_agg Int.toNat_natCast Int.natCast_nonneg true_and and_true decide_true decide_false Bool.cond_self Bool.false_eq_true if_false aopD aval acvP abval ag_22 ag_23 ag_25 ag_26 ag_27 ag_29 ag_3 ag_4 ag_43 ag_46 ag_47 ag_49 ag_9 apd_23 apd_26 apd_27 apd_46 apd_47 arr_23 arr_26 arr_27 arr_30 arr_46 arr_47 cvB_3_22 cvB_47_9 cvK_3_22 cvK_47_9 el_23 el_26 el_27 el_30 el_46 el_47 fd_25_0 fd_25_1 fd_25_2 fd_25_3 fd_25_4 fd_25_5 fd_29_0 fd_29_1 fd_29_2 fd_29_3 fd_29_4 fd_43_0 fd_43_1 fd_49_0 fd_49_1 fd_49_2 fd_49_3 fd_49_4 fd_49_5 fd_49_6 fd_49_7 fd_49_8 fp_25 fp_29 fp_43 fp_49 isStr_23 isStr_26 isStr_27 isStr_30 isStr_46 isStr_47 tk_22 tk_23 tk_26 tk_27 tk_3 tk_30 tk_4 tk_46 tk_47 tk_9 zv_22 zv_25 zv_29 zv_43 zv_46 zv_49 zv_5 zv_9
theorem strs_get (l : List (List UInt8)) (i : Nat) : (strs l)[i]? = (l[i]?).map .str := by simp [strs]
theorem eqS_con (s : List UInt8) : Pu Try.prog 37 [.str s, .str s] (.bool true) := by
  refine eqS_o (by simp) ?_
  simp only [numb, List.map_cons, List.map_nil, Nat.zero_add]
  repeat' (first
    | with_reducible refine WC_seq ?_
    | with_reducible refine WC_region ?_
    | with_reducible refine WC_skip ?_
    | with_reducible refine WC_ret ?_
    | with_reducible refine WC_exit ?_
    | with_reducible refine WC_block ?_
    | with_reducible refine thenQ_n ?_
    | with_reducible refine thenQ_r ?_
    | with_reducible refine thenQ_e ?_
    | with_reducible refine blockQ_n ?_
    | with_reducible refine blockQ_r ?_
    | with_reducible refine blockQ_e ?_
    | with_reducible refine blockQ_o rfl ?_
    | with_reducible refine WRs_nil ?_
    | ((with_reducible apply RUN_bool); (focus (intro q hq; simp only [go_sem, Nat.reduceAdd, Nat.reduceSub, Nat.reduceMul, beq_self_eq_true] at hq; exact hq.symm)); (focus (intro b q hq; simp only [St.setv, lset, cond, ltb] at hq; exact hq.symm)); intro bb hb; (first | (with_reducible have h9 : true = bb := hb; clear hb; subst h9) | (with_reducible have h9 : false = bb := hb; clear hb; subst h9) | skip))
    | ((with_reducible apply WRs_nil2); (focus (intro q hq; simp only [nilS, isSl, isConstNil, St.ev, St.get, lk, cond, Bool.and_true, Bool.and_self, tk_22, tk_23, tk_26, tk_27, tk_3, tk_30, tk_4, tk_46, tk_47, tk_9] at hq; exact hq.symm)); (focus (intro b q hq; simp only [St.setv, lset, cond, ltb] at hq; exact hq.symm)); intro bb hb; (first | (with_reducible have h9 : true = bb := hb; clear hb; subst h9) | (with_reducible have h9 : false = bb := hb; clear hb; subst h9) | skip))
    | ((with_reducible apply RUN_n); (focus (intro q hq; simp only [go_sem, Nat.reduceAdd, Nat.reduceSub, Nat.reduceMul, beq_self_eq_true] at hq; exact hq.symm)))
    | ((with_reducible apply RUN_gt); (focus (intro q hq; simp only [St.get, lk, cond] at hq; exact hq.symm)))
    | ((with_reducible apply RUN_gf); (focus (intro q hq; simp only [St.get, lk, cond] at hq; exact hq.symm)); (focus (intro q hq; simp only [St.setv, lset, cond, ltb] at hq; exact hq.symm)))
    | ((with_reducible apply RUN_gu); (focus (intro q hq; simp only [St.get, lk, cond] at hq; exact hq.symm)); (focus (intro q hq; simp only [St.setv, lset, cond, ltb] at hq; exact hq.symm)))
    | ((with_reducible apply RUN_gv); (focus (intro q hq; simp only [St.get, lk, cond] at hq; exact hq.symm)); (focus (intro q hq; simp only [St.setv, lset, cond, ltb] at hq; exact hq.symm)); intro e; (first | subst e | (simp only [Bool.not_eq_true', Bool.not_eq_false'] at e; subst e)); rotate_left; intro e; simp only [Bool.not_true, Bool.not_false, Bool.not_eq_true', Bool.not_eq_false'] at e; subst e)
    | ((with_reducible apply RUN_ct); (focus (intro q hq; simp only [St.ev, St.get, lk, cond, ofConst] at hq; exact hq.symm)))
    | ((with_reducible apply RUN_cf); (focus (intro q hq; simp only [St.ev, St.get, lk, cond, ofConst] at hq; exact hq.symm)))
    | ((with_reducible apply RUN_phi); (focus (intro q hq; simp only [St.ev, St.get, lk, cond, ofConst] at hq; exact hq.symm)); (focus (intro q hq; simp only [runP, go_sem, Nat.reduceAdd, Nat.reduceSub, Nat.reduceMul, beq_self_eq_true] at hq; exact hq.symm)); (focus (intro q hq; simp only [phiS, phiAV, phiD, dstsOf, app, lset, St.get, lk, cond, decide_true, if_true] at hq; exact hq.symm)))
    | ((with_reducible apply RUN_phi2); (focus (intro q hq; simp only [St.ev, St.get, lk, cond, ofConst] at hq; exact hq.symm)); (focus (intro q hq; simp only [runP, go_sem, Nat.reduceAdd, Nat.reduceSub, Nat.reduceMul, beq_self_eq_true] at hq; exact hq.symm)); (focus (intro q hq; simp only [runP, go_sem, Nat.reduceAdd, Nat.reduceSub, Nat.reduceMul, beq_self_eq_true] at hq; exact hq.symm)); (focus (intro q hq; simp only [phiS, phiAV, phiD, dstsOf, app, lset, St.get, lk, cond, decide_true, if_true] at hq; exact hq.symm)))
    | ((with_reducible apply RUN_cv); (focus (intro q hq; simp only [St.ev, St.get, lk, cond, ofConst] at hq; exact hq.symm)); all_goals (intro e; first | cases e | (simp only [Bool.not_eq_true', Bool.not_eq_false'] at e; subst e) | skip)))
  (with_reducible apply RUN_ret)
  (focus (intro q hq; simp only [aret, arets, St.get, lk, cond] at hq; exact hq.symm))
  (focus (intro q hq; simp only [keepL, memb, cond] at hq; exact hq.symm))
  (try refine ⟨?_, rfl⟩)
  (try with_reducible rfl)
theorem sameS_con (l : List (List UInt8)) (hl : l.length < 4294967296) : Pu Try.prog 36 [.list (strs l), .list (strs l), .func (.func 37) [] []] (.bool true) := by
  refine sameS_o (by simp) ?_
  simp only [numb, List.map_cons, List.map_nil, Nat.zero_add]
  repeat' (first
    | with_reducible refine WC_seq ?_
    | with_reducible refine WC_region ?_
    | with_reducible refine WC_skip ?_
    | with_reducible refine WC_ret ?_
    | with_reducible refine WC_exit ?_
    | with_reducible refine WC_block ?_
    | with_reducible refine thenQ_n ?_
    | with_reducible refine thenQ_r ?_
    | with_reducible refine thenQ_e ?_
    | with_reducible refine blockQ_n ?_
    | with_reducible refine blockQ_r ?_
    | with_reducible refine blockQ_e ?_
    | with_reducible refine blockQ_o rfl ?_
    | with_reducible refine WRs_nil ?_
    | ((with_reducible apply RUN_bool); (focus (intro q hq; simp only [go_sem, Nat.reduceAdd, Nat.reduceSub, Nat.reduceMul, strs_len, beq_self_eq_true, bne_self_eq_false] at hq; exact hq.symm)); (focus (intro b q hq; simp only [St.setv, lset, cond, ltb] at hq; exact hq.symm)); intro bb hb; (first | (with_reducible have h9 : true = bb := hb; clear hb; subst h9) | (with_reducible have h9 : false = bb := hb; clear hb; subst h9) | skip))
    | ((with_reducible apply WRs_nil2); (focus (intro q hq; simp only [nilS, isSl, isConstNil, St.ev, St.get, lk, cond, Bool.and_true, Bool.and_self, tk_22, tk_23, tk_26, tk_27, tk_3, tk_30, tk_4, tk_46, tk_47, tk_9] at hq; exact hq.symm)); (focus (intro b q hq; simp only [St.setv, lset, cond, ltb] at hq; exact hq.symm)); intro bb hb; (first | (with_reducible have h9 : true = bb := hb; clear hb; subst h9) | (with_reducible have h9 : false = bb := hb; clear hb; subst h9) | skip))
    | ((with_reducible apply RUN_n); (focus (intro q hq; simp only [go_sem, Nat.reduceAdd, Nat.reduceSub, Nat.reduceMul, strs_len, beq_self_eq_true, bne_self_eq_false] at hq; exact hq.symm)))
    | ((with_reducible apply RUN_gt); (focus (intro q hq; simp only [St.get, lk, cond] at hq; exact hq.symm)))
    | ((with_reducible apply WC_draw mx); (focus (intro q hq; simp only [objNames, List.map_cons, List.map_nil, List.filter_cons, List.filter_nil, isObj, lk, cond, if_true, if_false, Bool.false_eq_true] at hq; exact hq.symm)); (focus rfl))
    | with_reducible refine RUND_nil ?_
    | ((with_reducible apply RUND_bool); (focus (intro q hq; simp only [go_sem, Nat.reduceAdd, Nat.reduceSub, Nat.reduceMul, strs_len, beq_self_eq_true, bne_self_eq_false] at hq; exact hq.symm)); (focus (intro b q hq; simp only [St.setv, lset, cond, ltb] at hq; exact hq.symm)); intro bb hb; (first | (with_reducible have h9 : true = bb := hb; clear hb; subst h9) | (with_reducible have h9 : false = bb := hb; clear hb; subst h9) | skip))
    | ((with_reducible apply RUND_n); (focus (intro q hq; simp only [go_sem, Nat.reduceAdd, Nat.reduceSub, Nat.reduceMul, strs_len, beq_self_eq_true, bne_self_eq_false] at hq; exact hq.symm)))
    | ((with_reducible apply RUND_lbool); (focus (intro q hq; simp only [laOK, List.all_cons, List.all_nil, St.get, lk, cond, AV.refs, AV.refs.refsL, memb, List.append_nil, Bool.and_true, Bool.true_and, Bool.and_self] at hq; exact hq.symm)); (focus (intro q hq; simp only [go_sem, Nat.reduceAdd, Nat.reduceSub, Nat.reduceMul, strs_len, beq_self_eq_true, bne_self_eq_false] at hq; exact hq.symm)); (focus (intro b q hq; simp only [St.setv, lset, cond, ltb] at hq; exact hq.symm)); intro bb hb; (first | (with_reducible have h9 : true = bb := hb; clear hb; subst h9) | (with_reducible have h9 : false = bb := hb; clear hb; subst h9) | skip))
    | ((with_reducible apply RUND_l); (focus (intro q hq; simp only [laOK, List.all_cons, List.all_nil, St.get, lk, cond, AV.refs, AV.refs.refsL, memb, List.append_nil, Bool.and_true, Bool.true_and, Bool.and_self] at hq; exact hq.symm)); (focus (intro q hq; simp only [go_sem, Nat.reduceAdd, Nat.reduceSub, Nat.reduceMul, strs_len, beq_self_eq_true, bne_self_eq_false] at hq; exact hq.symm)))
    | ((with_reducible apply RUND_lm); (focus (intro q hq; simp only [laOK, List.all_cons, List.all_nil, St.get, lk, cond, AV.refs, AV.refs.refsL, memb, List.append_nil, Bool.and_true, Bool.true_and, Bool.and_self] at hq; exact hq.symm)); (focus (intro q hq; simp only [go_sem, Nat.reduceAdd, Nat.reduceSub, Nat.reduceMul, strs_len, beq_self_eq_true, bne_self_eq_false] at hq; exact hq.symm)))
    | ((with_reducible apply RUND_gt); (focus (intro q hq; simp only [St.get, lk, cond] at hq; exact hq.symm)))
    | ((with_reducible apply RUND_gf); (focus (intro q hq; simp only [sameOn, laOK, List.all_cons, List.all_nil, St.get, lk, lset, cond, AV.refs, AV.refs.refsL, memb, List.append_nil, Bool.and_true, Bool.true_and, Bool.and_self, and_self, and_true, skipOK, eq_self, forall_const, implies_true, false_implies, Bool.false_and, Bool.and_false, Bool.false_eq_true] at hq; subst hq; trivial)); (focus (intro q hq; simp only [St.get, lk, cond] at hq; exact hq.symm)); (focus (intro q hq; simp only [St.setv, lset, cond, ltb] at hq; exact hq.symm)))
    | ((with_reducible apply RUND_gu); (focus (intro q hq; simp only [sameOn, laOK, List.all_cons, List.all_nil, St.get, lk, lset, cond, AV.refs, AV.refs.refsL, memb, List.append_nil, Bool.and_true, Bool.true_and, Bool.and_self, and_self, and_true, skipOK, eq_self, forall_const, implies_true, false_implies, Bool.false_and, Bool.and_false, Bool.false_eq_true] at hq; subst hq; trivial)); (focus (intro q hq; simp only [St.get, lk, cond] at hq; exact hq.symm)); (focus (intro q hq; simp only [St.setv, lset, cond, ltb] at hq; exact hq.symm)))
    | ((with_reducible apply RUND_gv); rotate_left; (focus (intro q hq; simp only [St.get, lk, cond] at hq; exact hq.symm)); (focus (intro q hq; simp only [St.setv, lset, cond, ltb] at hq; exact hq.symm)); rotate_left; rotate_left; (focus (intro q hq; simp only [sameOn, laOK, List.all_cons, List.all_nil, St.get, lk, lset, cond, AV.refs, AV.refs.refsL, memb, List.append_nil, Bool.and_true, Bool.true_and, Bool.and_self, and_self, and_true, skipOK, eq_self, forall_const, implies_true, false_implies, Bool.false_and, Bool.and_false, Bool.false_eq_true] at hq; subst hq; trivial)); intro e; (first | subst e | (simp only [Bool.not_eq_true', Bool.not_eq_false'] at e; subst e)); rotate_left; intro e; simp only [Bool.not_true, Bool.not_false, Bool.not_eq_true', Bool.not_eq_false'] at e; subst e)
    | ((with_reducible apply RUND_ch); (focus (intro q hq; simp only [go_sem, Nat.reduceAdd, Nat.reduceSub, Nat.reduceMul, strs_len, beq_self_eq_true, bne_self_eq_false] at hq; exact hq.symm)); (focus (intro q hq; simp only [sameOn, laOK, List.all_cons, List.all_nil, St.get, lk, lset, cond, AV.refs, AV.refs.refsL, memb, List.append_nil, Bool.and_true, Bool.true_and, Bool.and_self, and_self, and_true] at hq; subst hq; trivial)); (focus (intro e; first | (cases e; done) | rfl)))
    | ((with_reducible apply RUN_gf); (focus (intro q hq; simp only [St.get, lk, cond] at hq; exact hq.symm)); (focus (intro q hq; simp only [St.setv, lset, cond, ltb] at hq; exact hq.symm)))
    | ((with_reducible apply RUN_gu); (focus (intro q hq; simp only [St.get, lk, cond] at hq; exact hq.symm)); (focus (intro q hq; simp only [St.setv, lset, cond, ltb] at hq; exact hq.symm)))
    | ((with_reducible apply RUN_gv); (focus (intro q hq; simp only [St.get, lk, cond] at hq; exact hq.symm)); (focus (intro q hq; simp only [St.setv, lset, cond, ltb] at hq; exact hq.symm)); intro e; (first | subst e | (simp only [Bool.not_eq_true', Bool.not_eq_false'] at e; subst e)); rotate_left; intro e; simp only [Bool.not_true, Bool.not_false, Bool.not_eq_true', Bool.not_eq_false'] at e; subst e)
    | ((with_reducible apply RUN_ct); (focus (intro q hq; simp only [St.ev, St.get, lk, cond, ofConst] at hq; exact hq.symm)))
    | ((with_reducible apply RUN_cf); (focus (intro q hq; simp only [St.ev, St.get, lk, cond, ofConst] at hq; exact hq.symm)))
    | ((with_reducible apply RUN_phi); (focus (intro q hq; simp only [St.ev, St.get, lk, cond, ofConst] at hq; exact hq.symm)); (focus (intro q hq; simp only [runP, go_sem, Nat.reduceAdd, Nat.reduceSub, Nat.reduceMul, strs_len, beq_self_eq_true, bne_self_eq_false] at hq; exact hq.symm)); (focus (intro q hq; simp only [phiS, phiAV, phiD, dstsOf, app, lset, St.get, lk, cond, decide_true, if_true] at hq; exact hq.symm)))
    | ((with_reducible apply RUN_phi2); (focus (intro q hq; simp only [St.ev, St.get, lk, cond, ofConst] at hq; exact hq.symm)); (focus (intro q hq; simp only [runP, go_sem, Nat.reduceAdd, Nat.reduceSub, Nat.reduceMul, strs_len, beq_self_eq_true, bne_self_eq_false] at hq; exact hq.symm)); (focus (intro q hq; simp only [runP, go_sem, Nat.reduceAdd, Nat.reduceSub, Nat.reduceMul, strs_len, beq_self_eq_true, bne_self_eq_false] at hq; exact hq.symm)); (focus (intro q hq; simp only [phiS, phiAV, phiD, dstsOf, app, lset, St.get, lk, cond, decide_true, if_true] at hq; exact hq.symm)))
    | ((with_reducible apply RUN_cv); (focus (intro q hq; simp only [St.ev, St.get, lk, cond, ofConst] at hq; exact hq.symm)); all_goals (intro e; first | cases e | (simp only [Bool.not_eq_true', Bool.not_eq_false'] at e; subst e) | skip)))
  refine WC_loopI (α := Nat) [0, 1, 2, 7] [] (fun i => i ≤ l.length) (fun i => { n := 30, tm := [(0, .d (.list (strs l))), (1, .d (.list (strs l))), (2, .d (.func (.func 37) [] [])), (7, .d (.int .i64 i))], hp := [] }) (fun i => l.length - i) rfl 0 (by intro q hq; simp only [St.keep, keepL, memb, cond, Bool.false_eq_true, if_false, if_true] at hq; subst hq; first | rfl | (simp only [if_true]; done) | (simp only [if_true]; rfl)) ?_ (fun i hI => ?_)
  · simp
  · skip
    repeat' (first
      | with_reducible refine WC_seq ?_
      | with_reducible refine WC_region ?_
      | with_reducible refine WC_skip ?_
      | with_reducible refine WC_ret ?_
      | with_reducible refine WC_exit ?_
      | with_reducible refine WC_block ?_
      | with_reducible refine thenQ_n ?_
      | with_reducible refine thenQ_r ?_
      | with_reducible refine thenQ_e ?_
      | with_reducible refine blockQ_n ?_
      | with_reducible refine blockQ_r ?_
      | with_reducible refine blockQ_e ?_
      | with_reducible refine blockQ_o rfl ?_
      | with_reducible refine WRs_nil ?_
      | ((with_reducible apply RUN_bool); (focus (intro q hq; simp only [go_sem, Nat.reduceAdd, Nat.reduceSub, Nat.reduceMul, strs_len] at hq; exact hq.symm)); (focus (intro b q hq; simp only [St.setv, lset, cond, ltb] at hq; exact hq.symm)); intro bb hb; (first | (with_reducible have h9 : true = bb := hb; clear hb; subst h9) | (with_reducible have h9 : false = bb := hb; clear hb; subst h9) | skip))
      | ((with_reducible apply WRs_nil2); (focus (intro q hq; simp only [nilS, isSl, isConstNil, St.ev, St.get, lk, cond, Bool.and_true, Bool.and_self, tk_22, tk_23, tk_26, tk_27, tk_3, tk_30, tk_4, tk_46, tk_47, tk_9] at hq; exact hq.symm)); (focus (intro b q hq; simp only [St.setv, lset, cond, ltb] at hq; exact hq.symm)); intro bb hb; (first | (with_reducible have h9 : true = bb := hb; clear hb; subst h9) | (with_reducible have h9 : false = bb := hb; clear hb; subst h9) | skip))
      | ((with_reducible apply RUN_n); (focus (intro q hq; simp only [go_sem, Nat.reduceAdd, Nat.reduceSub, Nat.reduceMul, strs_len] at hq; exact hq.symm)))
      | ((with_reducible apply RUN_gt); (focus (intro q hq; simp only [St.get, lk, cond] at hq; exact hq.symm)))
      | ((with_reducible apply WC_draw mx); (focus (intro q hq; simp only [objNames, List.map_cons, List.map_nil, List.filter_cons, List.filter_nil, isObj, lk, cond, if_true, if_false, Bool.false_eq_true] at hq; exact hq.symm)); (focus rfl))
      | with_reducible refine RUND_nil ?_
      | ((with_reducible apply RUND_bool); (focus (intro q hq; simp only [go_sem, Nat.reduceAdd, Nat.reduceSub, Nat.reduceMul, strs_len] at hq; exact hq.symm)); (focus (intro b q hq; simp only [St.setv, lset, cond, ltb] at hq; exact hq.symm)); intro bb hb; (first | (with_reducible have h9 : true = bb := hb; clear hb; subst h9) | (with_reducible have h9 : false = bb := hb; clear hb; subst h9) | skip))
      | ((with_reducible apply RUND_n); (focus (intro q hq; simp only [go_sem, Nat.reduceAdd, Nat.reduceSub, Nat.reduceMul, strs_len] at hq; exact hq.symm)))
      | ((with_reducible apply RUND_lbool); (focus (intro q hq; simp only [laOK, List.all_cons, List.all_nil, St.get, lk, cond, AV.refs, AV.refs.refsL, memb, List.append_nil, Bool.and_true, Bool.true_and, Bool.and_self] at hq; exact hq.symm)); (focus (intro q hq; simp only [go_sem, Nat.reduceAdd, Nat.reduceSub, Nat.reduceMul, strs_len] at hq; exact hq.symm)); (focus (intro b q hq; simp only [St.setv, lset, cond, ltb] at hq; exact hq.symm)); intro bb hb; (first | (with_reducible have h9 : true = bb := hb; clear hb; subst h9) | (with_reducible have h9 : false = bb := hb; clear hb; subst h9) | skip))
      | ((with_reducible apply RUND_l); (focus (intro q hq; simp only [laOK, List.all_cons, List.all_nil, St.get, lk, cond, AV.refs, AV.refs.refsL, memb, List.append_nil, Bool.and_true, Bool.true_and, Bool.and_self] at hq; exact hq.symm)); (focus (intro q hq; simp only [go_sem, Nat.reduceAdd, Nat.reduceSub, Nat.reduceMul, strs_len] at hq; exact hq.symm)))
      | ((with_reducible apply RUND_lm); (focus (intro q hq; simp only [laOK, List.all_cons, List.all_nil, St.get, lk, cond, AV.refs, AV.refs.refsL, memb, List.append_nil, Bool.and_true, Bool.true_and, Bool.and_self] at hq; exact hq.symm)); (focus (intro q hq; simp only [go_sem, Nat.reduceAdd, Nat.reduceSub, Nat.reduceMul, strs_len] at hq; exact hq.symm)))
      | ((with_reducible apply RUND_gt); (focus (intro q hq; simp only [St.get, lk, cond] at hq; exact hq.symm)))
      | ((with_reducible apply RUND_gf); (focus (intro q hq; simp only [sameOn, laOK, List.all_cons, List.all_nil, St.get, lk, lset, cond, AV.refs, AV.refs.refsL, memb, List.append_nil, Bool.and_true, Bool.true_and, Bool.and_self, and_self, and_true, skipOK, eq_self, forall_const, implies_true, false_implies, Bool.false_and, Bool.and_false, Bool.false_eq_true] at hq; subst hq; trivial)); (focus (intro q hq; simp only [St.get, lk, cond] at hq; exact hq.symm)); (focus (intro q hq; simp only [St.setv, lset, cond, ltb] at hq; exact hq.symm)))
      | ((with_reducible apply RUND_gu); (focus (intro q hq; simp only [sameOn, laOK, List.all_cons, List.all_nil, St.get, lk, lset, cond, AV.refs, AV.refs.refsL, memb, List.append_nil, Bool.and_true, Bool.true_and, Bool.and_self, and_self, and_true, skipOK, eq_self, forall_const, implies_true, false_implies, Bool.false_and, Bool.and_false, Bool.false_eq_true] at hq; subst hq; trivial)); (focus (intro q hq; simp only [St.get, lk, cond] at hq; exact hq.symm)); (focus (intro q hq; simp only [St.setv, lset, cond, ltb] at hq; exact hq.symm)))
      | ((with_reducible apply RUND_gv); rotate_left; (focus (intro q hq; simp only [St.get, lk, cond] at hq; exact hq.symm)); (focus (intro q hq; simp only [St.setv, lset, cond, ltb] at hq; exact hq.symm)); rotate_left; rotate_left; (focus (intro q hq; simp only [sameOn, laOK, List.all_cons, List.all_nil, St.get, lk, lset, cond, AV.refs, AV.refs.refsL, memb, List.append_nil, Bool.and_true, Bool.true_and, Bool.and_self, and_self, and_true, skipOK, eq_self, forall_const, implies_true, false_implies, Bool.false_and, Bool.and_false, Bool.false_eq_true] at hq; subst hq; trivial)); intro e; (first | subst e | (simp only [Bool.not_eq_true', Bool.not_eq_false'] at e; subst e)); rotate_left; intro e; simp only [Bool.not_true, Bool.not_false, Bool.not_eq_true', Bool.not_eq_false'] at e; subst e)
      | ((with_reducible apply RUND_ch); (focus (intro q hq; simp only [go_sem, Nat.reduceAdd, Nat.reduceSub, Nat.reduceMul, strs_len] at hq; exact hq.symm)); (focus (intro q hq; simp only [sameOn, laOK, List.all_cons, List.all_nil, St.get, lk, lset, cond, AV.refs, AV.refs.refsL, memb, List.append_nil, Bool.and_true, Bool.true_and, Bool.and_self, and_self, and_true] at hq; subst hq; trivial)); (focus (intro e; first | (cases e; done) | rfl)))
      | ((with_reducible apply RUN_gf); (focus (intro q hq; simp only [St.get, lk, cond] at hq; exact hq.symm)); (focus (intro q hq; simp only [St.setv, lset, cond, ltb] at hq; exact hq.symm)))
      | ((with_reducible apply RUN_gu); (focus (intro q hq; simp only [St.get, lk, cond] at hq; exact hq.symm)); (focus (intro q hq; simp only [St.setv, lset, cond, ltb] at hq; exact hq.symm)))
      | ((with_reducible apply RUN_gv); (focus (intro q hq; simp only [St.get, lk, cond] at hq; exact hq.symm)); (focus (intro q hq; simp only [St.setv, lset, cond, ltb] at hq; exact hq.symm)); intro e; (first | subst e | (simp only [Bool.not_eq_true', Bool.not_eq_false'] at e; subst e)); rotate_left; intro e; simp only [Bool.not_true, Bool.not_false, Bool.not_eq_true', Bool.not_eq_false'] at e; subst e)
      | ((with_reducible apply RUN_ct); (focus (intro q hq; simp only [St.ev, St.get, lk, cond, ofConst] at hq; exact hq.symm)))
      | ((with_reducible apply RUN_cf); (focus (intro q hq; simp only [St.ev, St.get, lk, cond, ofConst] at hq; exact hq.symm)))
      | ((with_reducible apply RUN_phi); (focus (intro q hq; simp only [St.ev, St.get, lk, cond, ofConst] at hq; exact hq.symm)); (focus (intro q hq; simp only [runP, go_sem, Nat.reduceAdd, Nat.reduceSub, Nat.reduceMul, strs_len] at hq; exact hq.symm)); (focus (intro q hq; simp only [phiS, phiAV, phiD, dstsOf, app, lset, St.get, lk, cond, decide_true, if_true] at hq; exact hq.symm)))
      | ((with_reducible apply RUN_phi2); (focus (intro q hq; simp only [St.ev, St.get, lk, cond, ofConst] at hq; exact hq.symm)); (focus (intro q hq; simp only [runP, go_sem, Nat.reduceAdd, Nat.reduceSub, Nat.reduceMul, strs_len] at hq; exact hq.symm)); (focus (intro q hq; simp only [runP, go_sem, Nat.reduceAdd, Nat.reduceSub, Nat.reduceMul, strs_len] at hq; exact hq.symm)); (focus (intro q hq; simp only [phiS, phiAV, phiD, dstsOf, app, lset, St.get, lk, cond, decide_true, if_true] at hq; exact hq.symm)))
      | ((with_reducible apply RUN_cv); (focus (intro q hq; simp only [St.ev, St.get, lk, cond, ofConst] at hq; exact hq.symm)); all_goals (intro e; first | cases e | (simp only [Bool.not_eq_true', Bool.not_eq_false'] at e; subst e) | skip)))
    · have hi : i < l.length := by simpa using hb
      obtain ⟨p, hp⟩ : ∃ p, l[i]? = some p := ⟨_, List.getElem?_eq_getElem hi⟩
      have hpm := List.mem_of_getElem? hp
      have hw := w64_one (i := i) (by omega)
      repeat' (first
        | with_reducible refine WC_seq ?_
        | with_reducible refine WC_region ?_
        | with_reducible refine WC_skip ?_
        | with_reducible refine WC_ret ?_
        | with_reducible refine WC_exit ?_
        | with_reducible refine WC_block ?_
        | with_reducible refine thenQ_n ?_
        | with_reducible refine thenQ_r ?_
        | with_reducible refine thenQ_e ?_
        | with_reducible refine blockQ_n ?_
        | with_reducible refine blockQ_r ?_
        | with_reducible refine blockQ_e ?_
        | with_reducible refine blockQ_o rfl ?_
        | with_reducible refine WRs_nil ?_
        | ((with_reducible apply RUN_bool); (focus (intro q hq; simp only [go_sem, Nat.reduceAdd, Nat.reduceSub, Nat.reduceMul, strs_len, strs_get, hp, Option.map_some] at hq; exact hq.symm)); (focus (intro b q hq; simp only [St.setv, lset, cond, ltb] at hq; exact hq.symm)); intro bb hb; (first | (with_reducible have h9 : true = bb := hb; clear hb; subst h9) | (with_reducible have h9 : false = bb := hb; clear hb; subst h9) | skip))
        | ((with_reducible apply WRs_nil2); (focus (intro q hq; simp only [nilS, isSl, isConstNil, St.ev, St.get, lk, cond, Bool.and_true, Bool.and_self, tk_22, tk_23, tk_26, tk_27, tk_3, tk_30, tk_4, tk_46, tk_47, tk_9] at hq; exact hq.symm)); (focus (intro b q hq; simp only [St.setv, lset, cond, ltb] at hq; exact hq.symm)); intro bb hb; (first | (with_reducible have h9 : true = bb := hb; clear hb; subst h9) | (with_reducible have h9 : false = bb := hb; clear hb; subst h9) | skip))
        | ((with_reducible apply RUN_n); (focus (intro q hq; simp only [go_sem, Nat.reduceAdd, Nat.reduceSub, Nat.reduceMul, strs_len, strs_get, hp, Option.map_some] at hq; exact hq.symm)))
        | ((with_reducible apply RUN_gt); (focus (intro q hq; simp only [St.get, lk, cond] at hq; exact hq.symm)))
        | ((with_reducible apply WC_draw mx); (focus (intro q hq; simp only [objNames, List.map_cons, List.map_nil, List.filter_cons, List.filter_nil, isObj, lk, cond, if_true, if_false, Bool.false_eq_true] at hq; exact hq.symm)); (focus rfl))
        | with_reducible refine RUND_nil ?_
        | ((with_reducible apply RUND_bool); (focus (intro q hq; simp only [go_sem, Nat.reduceAdd, Nat.reduceSub, Nat.reduceMul, strs_len, strs_get, hp, Option.map_some] at hq; exact hq.symm)); (focus (intro b q hq; simp only [St.setv, lset, cond, ltb] at hq; exact hq.symm)); intro bb hb; (first | (with_reducible have h9 : true = bb := hb; clear hb; subst h9) | (with_reducible have h9 : false = bb := hb; clear hb; subst h9) | skip))
        | ((with_reducible apply RUND_n); (focus (intro q hq; simp only [go_sem, Nat.reduceAdd, Nat.reduceSub, Nat.reduceMul, strs_len, strs_get, hp, Option.map_some] at hq; exact hq.symm)))
        | ((with_reducible apply RUND_lbool); (focus (intro q hq; simp only [laOK, List.all_cons, List.all_nil, St.get, lk, cond, AV.refs, AV.refs.refsL, memb, List.append_nil, Bool.and_true, Bool.true_and, Bool.and_self] at hq; exact hq.symm)); (focus (intro q hq; simp only [go_sem, Nat.reduceAdd, Nat.reduceSub, Nat.reduceMul, strs_len, strs_get, hp, Option.map_some] at hq; exact hq.symm)); (focus (intro b q hq; simp only [St.setv, lset, cond, ltb] at hq; exact hq.symm)); intro bb hb; (first | (with_reducible have h9 : true = bb := hb; clear hb; subst h9) | (with_reducible have h9 : false = bb := hb; clear hb; subst h9) | skip))
        | ((with_reducible apply RUND_l); (focus (intro q hq; simp only [laOK, List.all_cons, List.all_nil, St.get, lk, cond, AV.refs, AV.refs.refsL, memb, List.append_nil, Bool.and_true, Bool.true_and, Bool.and_self] at hq; exact hq.symm)); (focus (intro q hq; simp only [go_sem, Nat.reduceAdd, Nat.reduceSub, Nat.reduceMul, strs_len, strs_get, hp, Option.map_some] at hq; exact hq.symm)))
        | ((with_reducible apply RUND_lm); (focus (intro q hq; simp only [laOK, List.all_cons, List.all_nil, St.get, lk, cond, AV.refs, AV.refs.refsL, memb, List.append_nil, Bool.and_true, Bool.true_and, Bool.and_self] at hq; exact hq.symm)); (focus (intro q hq; simp only [go_sem, Nat.reduceAdd, Nat.reduceSub, Nat.reduceMul, strs_len, strs_get, hp, Option.map_some] at hq; exact hq.symm)))
        | ((with_reducible apply RUND_gt); (focus (intro q hq; simp only [St.get, lk, cond] at hq; exact hq.symm)))
        | ((with_reducible apply RUND_gf); (focus (intro q hq; simp only [sameOn, laOK, List.all_cons, List.all_nil, St.get, lk, lset, cond, AV.refs, AV.refs.refsL, memb, List.append_nil, Bool.and_true, Bool.true_and, Bool.and_self, and_self, and_true, skipOK, eq_self, forall_const, implies_true, false_implies, Bool.false_and, Bool.and_false, Bool.false_eq_true] at hq; subst hq; trivial)); (focus (intro q hq; simp only [St.get, lk, cond] at hq; exact hq.symm)); (focus (intro q hq; simp only [St.setv, lset, cond, ltb] at hq; exact hq.symm)))
        | ((with_reducible apply RUND_gu); (focus (intro q hq; simp only [sameOn, laOK, List.all_cons, List.all_nil, St.get, lk, lset, cond, AV.refs, AV.refs.refsL, memb, List.append_nil, Bool.and_true, Bool.true_and, Bool.and_self, and_self, and_true, skipOK, eq_self, forall_const, implies_true, false_implies, Bool.false_and, Bool.and_false, Bool.false_eq_true] at hq; subst hq; trivial)); (focus (intro q hq; simp only [St.get, lk, cond] at hq; exact hq.symm)); (focus (intro q hq; simp only [St.setv, lset, cond, ltb] at hq; exact hq.symm)))
        | ((with_reducible apply RUND_gv); rotate_left; (focus (intro q hq; simp only [St.get, lk, cond] at hq; exact hq.symm)); (focus (intro q hq; simp only [St.setv, lset, cond, ltb] at hq; exact hq.symm)); rotate_left; rotate_left; (focus (intro q hq; simp only [sameOn, laOK, List.all_cons, List.all_nil, St.get, lk, lset, cond, AV.refs, AV.refs.refsL, memb, List.append_nil, Bool.and_true, Bool.true_and, Bool.and_self, and_self, and_true, skipOK, eq_self, forall_const, implies_true, false_implies, Bool.false_and, Bool.and_false, Bool.false_eq_true] at hq; subst hq; trivial)); intro e; (first | subst e | (simp only [Bool.not_eq_true', Bool.not_eq_false'] at e; subst e)); rotate_left; intro e; simp only [Bool.not_true, Bool.not_false, Bool.not_eq_true', Bool.not_eq_false'] at e; subst e)
        | ((with_reducible apply RUND_ch); (focus (intro q hq; simp only [go_sem, Nat.reduceAdd, Nat.reduceSub, Nat.reduceMul, strs_len, strs_get, hp, Option.map_some] at hq; exact hq.symm)); (focus (intro q hq; simp only [sameOn, laOK, List.all_cons, List.all_nil, St.get, lk, lset, cond, AV.refs, AV.refs.refsL, memb, List.append_nil, Bool.and_true, Bool.true_and, Bool.and_self, and_self, and_true] at hq; subst hq; trivial)); (focus (intro e; first | (cases e; done) | rfl)))
        | ((with_reducible apply RUN_gf); (focus (intro q hq; simp only [St.get, lk, cond] at hq; exact hq.symm)); (focus (intro q hq; simp only [St.setv, lset, cond, ltb] at hq; exact hq.symm)))
        | ((with_reducible apply RUN_gu); (focus (intro q hq; simp only [St.get, lk, cond] at hq; exact hq.symm)); (focus (intro q hq; simp only [St.setv, lset, cond, ltb] at hq; exact hq.symm)))
        | ((with_reducible apply RUN_gv); (focus (intro q hq; simp only [St.get, lk, cond] at hq; exact hq.symm)); (focus (intro q hq; simp only [St.setv, lset, cond, ltb] at hq; exact hq.symm)); intro e; (first | subst e | (simp only [Bool.not_eq_true', Bool.not_eq_false'] at e; subst e)); rotate_left; intro e; simp only [Bool.not_true, Bool.not_false, Bool.not_eq_true', Bool.not_eq_false'] at e; subst e)
        | ((with_reducible apply RUN_ct); (focus (intro q hq; simp only [St.ev, St.get, lk, cond, ofConst] at hq; exact hq.symm)))
        | ((with_reducible apply RUN_cf); (focus (intro q hq; simp only [St.ev, St.get, lk, cond, ofConst] at hq; exact hq.symm)))
        | ((with_reducible apply RUN_phi); (focus (intro q hq; simp only [St.ev, St.get, lk, cond, ofConst] at hq; exact hq.symm)); (focus (intro q hq; simp only [runP, go_sem, Nat.reduceAdd, Nat.reduceSub, Nat.reduceMul, strs_len, strs_get, hp, Option.map_some] at hq; exact hq.symm)); (focus (intro q hq; simp only [phiS, phiAV, phiD, dstsOf, app, lset, St.get, lk, cond, decide_true, if_true] at hq; exact hq.symm)))
        | ((with_reducible apply RUN_phi2); (focus (intro q hq; simp only [St.ev, St.get, lk, cond, ofConst] at hq; exact hq.symm)); (focus (intro q hq; simp only [runP, go_sem, Nat.reduceAdd, Nat.reduceSub, Nat.reduceMul, strs_len, strs_get, hp, Option.map_some] at hq; exact hq.symm)); (focus (intro q hq; simp only [runP, go_sem, Nat.reduceAdd, Nat.reduceSub, Nat.reduceMul, strs_len, strs_get, hp, Option.map_some] at hq; exact hq.symm)); (focus (intro q hq; simp only [phiS, phiAV, phiD, dstsOf, app, lset, St.get, lk, cond, decide_true, if_true] at hq; exact hq.symm)))
        | ((with_reducible apply RUN_pcallB); (focus (intro q hq; simp only [St.ev, St.get, lk, cond] at hq; exact hq.symm)); (focus (intro q hq; simp only [toDs, List.map, List.append, Array.toList, St.ev, St.get, lk, cond, ofConst, AV.toD, AV.toD.toDL, HAppend.hAppend, Append.append] at hq; exact hq.symm)); (focus (exact eqS_con p)); (focus (intro b q hq; simp only [St.setv, lset, cond, ltb] at hq; exact hq.symm)); intro bb hb; (first | (with_reducible have h9 : true = bb := hb; clear hb; subst h9) | (with_reducible have h9 : false = bb := hb; clear hb; subst h9) | skip))
        | ((with_reducible apply RUND_pcallB); (focus (intro q hq; simp only [St.ev, St.get, lk, cond] at hq; exact hq.symm)); (focus (intro q hq; simp only [toDs, List.map, List.append, Array.toList, St.ev, St.get, lk, cond, ofConst, AV.toD, AV.toD.toDL, HAppend.hAppend, Append.append] at hq; exact hq.symm)); (focus (exact eqS_con p)); (focus (intro b q hq; simp only [St.setv, lset, cond, ltb] at hq; exact hq.symm)); (focus (intro b q hq; simp only [sameOn, laOK, List.all_cons, List.all_nil, St.get, lk, lset, cond, AV.refs, AV.refs.refsL, memb, List.append_nil, Bool.and_true, Bool.true_and, Bool.and_self, and_self, and_true] at hq; subst hq; trivial)); intro bb hb; (first | (with_reducible have h9 : true = bb := hb; clear hb; subst h9) | (with_reducible have h9 : false = bb := hb; clear hb; subst h9) | skip))
        | ((with_reducible apply RUN_pcall); (focus (intro q hq; simp only [St.ev, St.get, lk, cond] at hq; exact hq.symm)); (focus (intro q hq; simp only [toDs, List.map, List.append, Array.toList, St.ev, St.get, lk, cond, ofConst, AV.toD, AV.toD.toDL, HAppend.hAppend, Append.append] at hq; exact hq.symm)); (focus (exact eqS_con p)); (focus (intro q hq; simp only [St.setv, lset, cond, ltb] at hq; exact hq.symm)))
        | ((with_reducible apply RUND_pcall); (focus (intro q hq; simp only [St.ev, St.get, lk, cond] at hq; exact hq.symm)); (focus (intro q hq; simp only [toDs, List.map, List.append, Array.toList, St.ev, St.get, lk, cond, ofConst, AV.toD, AV.toD.toDL, HAppend.hAppend, Append.append] at hq; exact hq.symm)); (focus (exact eqS_con p)); (focus (intro q hq; simp only [St.setv, lset, cond, ltb] at hq; exact hq.symm)); (focus (intro q hq; simp only [sameOn, laOK, List.all_cons, List.all_nil, St.get, lk, lset, cond, AV.refs, AV.refs.refsL, memb, List.append_nil, Bool.and_true, Bool.true_and, Bool.and_self, and_self, and_true] at hq; subst hq; trivial)))
        | ((with_reducible apply RUN_cv); (focus (intro q hq; simp only [St.ev, St.get, lk, cond, ofConst] at hq; exact hq.symm)); all_goals (intro e; first | cases e | (simp only [Bool.not_eq_true', Bool.not_eq_false'] at e; subst e) | skip)))
      refine ⟨i + 1, by omega, by omega, ?_⟩
      (intro q hq; simp only [St.keep, keepL, memb, cond, Bool.false_eq_true, if_false] at hq; subst hq; first | rfl | (simp only [hw]; done) | (simp only [hw]; rfl))
    · skip
      repeat' (first
        | with_reducible refine WC_seq ?_
        | with_reducible refine WC_region ?_
        | with_reducible refine WC_skip ?_
        | with_reducible refine WC_ret ?_
        | with_reducible refine WC_exit ?_
        | with_reducible refine WC_block ?_
        | with_reducible refine thenQ_n ?_
        | with_reducible refine thenQ_r ?_
        | with_reducible refine thenQ_e ?_
        | with_reducible refine blockQ_n ?_
        | with_reducible refine blockQ_r ?_
        | with_reducible refine blockQ_e ?_
        | with_reducible refine blockQ_o rfl ?_
        | with_reducible refine WRs_nil ?_
        | ((with_reducible apply RUN_bool); (focus (intro q hq; simp only [go_sem, Nat.reduceAdd, Nat.reduceSub, Nat.reduceMul] at hq; exact hq.symm)); (focus (intro b q hq; simp only [St.setv, lset, cond, ltb] at hq; exact hq.symm)); intro bb hb; (first | (with_reducible have h9 : true = bb := hb; clear hb; subst h9) | (with_reducible have h9 : false = bb := hb; clear hb; subst h9) | skip))
        | ((with_reducible apply WRs_nil2); (focus (intro q hq; simp only [nilS, isSl, isConstNil, St.ev, St.get, lk, cond, Bool.and_true, Bool.and_self, tk_22, tk_23, tk_26, tk_27, tk_3, tk_30, tk_4, tk_46, tk_47, tk_9] at hq; exact hq.symm)); (focus (intro b q hq; simp only [St.setv, lset, cond, ltb] at hq; exact hq.symm)); intro bb hb; (first | (with_reducible have h9 : true = bb := hb; clear hb; subst h9) | (with_reducible have h9 : false = bb := hb; clear hb; subst h9) | skip))
        | ((with_reducible apply RUN_n); (focus (intro q hq; simp only [go_sem, Nat.reduceAdd, Nat.reduceSub, Nat.reduceMul] at hq; exact hq.symm)))
        | ((with_reducible apply RUN_gt); (focus (intro q hq; simp only [St.get, lk, cond] at hq; exact hq.symm)))
        | ((with_reducible apply WC_draw mx); (focus (intro q hq; simp only [objNames, List.map_cons, List.map_nil, List.filter_cons, List.filter_nil, isObj, lk, cond, if_true, if_false, Bool.false_eq_true] at hq; exact hq.symm)); (focus rfl))
        | with_reducible refine RUND_nil ?_
        | ((with_reducible apply RUND_bool); (focus (intro q hq; simp only [go_sem, Nat.reduceAdd, Nat.reduceSub, Nat.reduceMul] at hq; exact hq.symm)); (focus (intro b q hq; simp only [St.setv, lset, cond, ltb] at hq; exact hq.symm)); intro bb hb; (first | (with_reducible have h9 : true = bb := hb; clear hb; subst h9) | (with_reducible have h9 : false = bb := hb; clear hb; subst h9) | skip))
        | ((with_reducible apply RUND_n); (focus (intro q hq; simp only [go_sem, Nat.reduceAdd, Nat.reduceSub, Nat.reduceMul] at hq; exact hq.symm)))
        | ((with_reducible apply RUND_lbool); (focus (intro q hq; simp only [laOK, List.all_cons, List.all_nil, St.get, lk, cond, AV.refs, AV.refs.refsL, memb, List.append_nil, Bool.and_true, Bool.true_and, Bool.and_self] at hq; exact hq.symm)); (focus (intro q hq; simp only [go_sem, Nat.reduceAdd, Nat.reduceSub, Nat.reduceMul] at hq; exact hq.symm)); (focus (intro b q hq; simp only [St.setv, lset, cond, ltb] at hq; exact hq.symm)); intro bb hb; (first | (with_reducible have h9 : true = bb := hb; clear hb; subst h9) | (with_reducible have h9 : false = bb := hb; clear hb; subst h9) | skip))
        | ((with_reducible apply RUND_l); (focus (intro q hq; simp only [laOK, List.all_cons, List.all_nil, St.get, lk, cond, AV.refs, AV.refs.refsL, memb, List.append_nil, Bool.and_true, Bool.true_and, Bool.and_self] at hq; exact hq.symm)); (focus (intro q hq; simp only [go_sem, Nat.reduceAdd, Nat.reduceSub, Nat.reduceMul] at hq; exact hq.symm)))
        | ((with_reducible apply RUND_lm); (focus (intro q hq; simp only [laOK, List.all_cons, List.all_nil, St.get, lk, cond, AV.refs, AV.refs.refsL, memb, List.append_nil, Bool.and_true, Bool.true_and, Bool.and_self] at hq; exact hq.symm)); (focus (intro q hq; simp only [go_sem, Nat.reduceAdd, Nat.reduceSub, Nat.reduceMul] at hq; exact hq.symm)))
        | ((with_reducible apply RUND_gt); (focus (intro q hq; simp only [St.get, lk, cond] at hq; exact hq.symm)))
        | ((with_reducible apply RUND_gf); (focus (intro q hq; simp only [sameOn, laOK, List.all_cons, List.all_nil, St.get, lk, lset, cond, AV.refs, AV.refs.refsL, memb, List.append_nil, Bool.and_true, Bool.true_and, Bool.and_self, and_self, and_true, skipOK, eq_self, forall_const, implies_true, false_implies, Bool.false_and, Bool.and_false, Bool.false_eq_true] at hq; subst hq; trivial)); (focus (intro q hq; simp only [St.get, lk, cond] at hq; exact hq.symm)); (focus (intro q hq; simp only [St.setv, lset, cond, ltb] at hq; exact hq.symm)))
        | ((with_reducible apply RUND_gu); (focus (intro q hq; simp only [sameOn, laOK, List.all_cons, List.all_nil, St.get, lk, lset, cond, AV.refs, AV.refs.refsL, memb, List.append_nil, Bool.and_true, Bool.true_and, Bool.and_self, and_self, and_true, skipOK, eq_self, forall_const, implies_true, false_implies, Bool.false_and, Bool.and_false, Bool.false_eq_true] at hq; subst hq; trivial)); (focus (intro q hq; simp only [St.get, lk, cond] at hq; exact hq.symm)); (focus (intro q hq; simp only [St.setv, lset, cond, ltb] at hq; exact hq.symm)))
        | ((with_reducible apply RUND_gv); rotate_left; (focus (intro q hq; simp only [St.get, lk, cond] at hq; exact hq.symm)); (focus (intro q hq; simp only [St.setv, lset, cond, ltb] at hq; exact hq.symm)); rotate_left; rotate_left; (focus (intro q hq; simp only [sameOn, laOK, List.all_cons, List.all_nil, St.get, lk, lset, cond, AV.refs, AV.refs.refsL, memb, List.append_nil, Bool.and_true, Bool.true_and, Bool.and_self, and_self, and_true, skipOK, eq_self, forall_const, implies_true, false_implies, Bool.false_and, Bool.and_false, Bool.false_eq_true] at hq; subst hq; trivial)); intro e; (first | subst e | (simp only [Bool.not_eq_true', Bool.not_eq_false'] at e; subst e)); rotate_left; intro e; simp only [Bool.not_true, Bool.not_false, Bool.not_eq_true', Bool.not_eq_false'] at e; subst e)
        | ((with_reducible apply RUND_ch); (focus (intro q hq; simp only [go_sem, Nat.reduceAdd, Nat.reduceSub, Nat.reduceMul] at hq; exact hq.symm)); (focus (intro q hq; simp only [sameOn, laOK, List.all_cons, List.all_nil, St.get, lk, lset, cond, AV.refs, AV.refs.refsL, memb, List.append_nil, Bool.and_true, Bool.true_and, Bool.and_self, and_self, and_true] at hq; subst hq; trivial)); (focus (intro e; first | (cases e; done) | rfl)))
        | ((with_reducible apply RUN_gf); (focus (intro q hq; simp only [St.get, lk, cond] at hq; exact hq.symm)); (focus (intro q hq; simp only [St.setv, lset, cond, ltb] at hq; exact hq.symm)))
        | ((with_reducible apply RUN_gu); (focus (intro q hq; simp only [St.get, lk, cond] at hq; exact hq.symm)); (focus (intro q hq; simp only [St.setv, lset, cond, ltb] at hq; exact hq.symm)))
        | ((with_reducible apply RUN_gv); (focus (intro q hq; simp only [St.get, lk, cond] at hq; exact hq.symm)); (focus (intro q hq; simp only [St.setv, lset, cond, ltb] at hq; exact hq.symm)); intro e; (first | subst e | (simp only [Bool.not_eq_true', Bool.not_eq_false'] at e; subst e)); rotate_left; intro e; simp only [Bool.not_true, Bool.not_false, Bool.not_eq_true', Bool.not_eq_false'] at e; subst e)
        | ((with_reducible apply RUN_ct); (focus (intro q hq; simp only [St.ev, St.get, lk, cond, ofConst] at hq; exact hq.symm)))
        | ((with_reducible apply RUN_cf); (focus (intro q hq; simp only [St.ev, St.get, lk, cond, ofConst] at hq; exact hq.symm)))
        | ((with_reducible apply RUN_phi); (focus (intro q hq; simp only [St.ev, St.get, lk, cond, ofConst] at hq; exact hq.symm)); (focus (intro q hq; simp only [runP, go_sem, Nat.reduceAdd, Nat.reduceSub, Nat.reduceMul] at hq; exact hq.symm)); (focus (intro q hq; simp only [phiS, phiAV, phiD, dstsOf, app, lset, St.get, lk, cond, decide_true, if_true] at hq; exact hq.symm)))
        | ((with_reducible apply RUN_phi2); (focus (intro q hq; simp only [St.ev, St.get, lk, cond, ofConst] at hq; exact hq.symm)); (focus (intro q hq; simp only [runP, go_sem, Nat.reduceAdd, Nat.reduceSub, Nat.reduceMul] at hq; exact hq.symm)); (focus (intro q hq; simp only [runP, go_sem, Nat.reduceAdd, Nat.reduceSub, Nat.reduceMul] at hq; exact hq.symm)); (focus (intro q hq; simp only [phiS, phiAV, phiD, dstsOf, app, lset, St.get, lk, cond, decide_true, if_true] at hq; exact hq.symm)))
        | ((with_reducible apply RUN_cv); (focus (intro q hq; simp only [St.ev, St.get, lk, cond, ofConst] at hq; exact hq.symm)); all_goals (intro e; first | cases e | (simp only [Bool.not_eq_true', Bool.not_eq_false'] at e; subst e) | skip)))
      (with_reducible apply RUN_ret)
      (focus (intro q hq; simp only [aret, arets, St.get, lk, cond] at hq; exact hq.symm))
      (focus (intro q hq; simp only [keepL, memb, cond] at hq; exact hq.symm))
      (try refine ⟨?_, rfl⟩)
      (try with_reducible rfl)
theorem plainS_con (l : List (List UInt8)) (hl : l.length < 4294967296) : Pu Try.prog 22 [.list (strs l), .list (strs l)] (.bool true) := by
  refine plainS_o (by simp) ?_
  simp only [numb, List.map_cons, List.map_nil, Nat.zero_add]
  repeat' (first
    | with_reducible refine WC_seq ?_
    | with_reducible refine WC_region ?_
    | with_reducible refine WC_skip ?_
    | with_reducible refine WC_ret ?_
    | with_reducible refine WC_exit ?_
    | with_reducible refine WC_block ?_
    | with_reducible refine thenQ_n ?_
    | with_reducible refine thenQ_r ?_
    | with_reducible refine thenQ_e ?_
    | with_reducible refine blockQ_n ?_
    | with_reducible refine blockQ_r ?_
    | with_reducible refine blockQ_e ?_
    | with_reducible refine blockQ_o rfl ?_
    | with_reducible refine WRs_nil ?_
    | ((with_reducible apply RUN_bool); (focus (intro q hq; simp only [go_sem, Nat.reduceAdd, Nat.reduceSub, Nat.reduceMul] at hq; exact hq.symm)); (focus (intro b q hq; simp only [St.setv, lset, cond, ltb] at hq; exact hq.symm)); intro bb hb; (first | (with_reducible have h9 : true = bb := hb; clear hb; subst h9) | (with_reducible have h9 : false = bb := hb; clear hb; subst h9) | skip))
    | ((with_reducible apply WRs_nil2); (focus (intro q hq; simp only [nilS, isSl, isConstNil, St.ev, St.get, lk, cond, Bool.and_true, Bool.and_self, tk_22, tk_23, tk_26, tk_27, tk_3, tk_30, tk_4, tk_46, tk_47, tk_9] at hq; exact hq.symm)); (focus (intro b q hq; simp only [St.setv, lset, cond, ltb] at hq; exact hq.symm)); intro bb hb; (first | (with_reducible have h9 : true = bb := hb; clear hb; subst h9) | (with_reducible have h9 : false = bb := hb; clear hb; subst h9) | skip))
    | ((with_reducible apply RUN_n); (focus (intro q hq; simp only [go_sem, Nat.reduceAdd, Nat.reduceSub, Nat.reduceMul] at hq; exact hq.symm)))
    | ((with_reducible apply RUN_gt); (focus (intro q hq; simp only [St.get, lk, cond] at hq; exact hq.symm)))
    | ((with_reducible apply RUN_gf); (focus (intro q hq; simp only [St.get, lk, cond] at hq; exact hq.symm)); (focus (intro q hq; simp only [St.setv, lset, cond, ltb] at hq; exact hq.symm)))
    | ((with_reducible apply RUN_gu); (focus (intro q hq; simp only [St.get, lk, cond] at hq; exact hq.symm)); (focus (intro q hq; simp only [St.setv, lset, cond, ltb] at hq; exact hq.symm)))
    | ((with_reducible apply RUN_gv); (focus (intro q hq; simp only [St.get, lk, cond] at hq; exact hq.symm)); (focus (intro q hq; simp only [St.setv, lset, cond, ltb] at hq; exact hq.symm)); intro e; (first | subst e | (simp only [Bool.not_eq_true', Bool.not_eq_false'] at e; subst e)); rotate_left; intro e; simp only [Bool.not_true, Bool.not_false, Bool.not_eq_true', Bool.not_eq_false'] at e; subst e)
    | ((with_reducible apply RUN_ct); (focus (intro q hq; simp only [St.ev, St.get, lk, cond, ofConst] at hq; exact hq.symm)))
    | ((with_reducible apply RUN_cf); (focus (intro q hq; simp only [St.ev, St.get, lk, cond, ofConst] at hq; exact hq.symm)))
    | ((with_reducible apply RUN_phi); (focus (intro q hq; simp only [St.ev, St.get, lk, cond, ofConst] at hq; exact hq.symm)); (focus (intro q hq; simp only [runP, go_sem, Nat.reduceAdd, Nat.reduceSub, Nat.reduceMul] at hq; exact hq.symm)); (focus (intro q hq; simp only [phiS, phiAV, phiD, dstsOf, app, lset, St.get, lk, cond, decide_true, if_true] at hq; exact hq.symm)))
    | ((with_reducible apply RUN_phi2); (focus (intro q hq; simp only [St.ev, St.get, lk, cond, ofConst] at hq; exact hq.symm)); (focus (intro q hq; simp only [runP, go_sem, Nat.reduceAdd, Nat.reduceSub, Nat.reduceMul] at hq; exact hq.symm)); (focus (intro q hq; simp only [runP, go_sem, Nat.reduceAdd, Nat.reduceSub, Nat.reduceMul] at hq; exact hq.symm)); (focus (intro q hq; simp only [phiS, phiAV, phiD, dstsOf, app, lset, St.get, lk, cond, decide_true, if_true] at hq; exact hq.symm)))
    | ((with_reducible apply RUN_pcallB); (focus (intro q hq; simp only [St.ev, St.get, lk, cond] at hq; exact hq.symm)); (focus (intro q hq; simp only [toDs, List.map, List.append, Array.toList, St.ev, St.get, lk, cond, ofConst, AV.toD, AV.toD.toDL, HAppend.hAppend, Append.append] at hq; exact hq.symm)); (focus (exact sameS_con l hl)); (focus (intro b q hq; simp only [St.setv, lset, cond, ltb] at hq; exact hq.symm)); intro bb hb; (first | (with_reducible have h9 : true = bb := hb; clear hb; subst h9) | (with_reducible have h9 : false = bb := hb; clear hb; subst h9) | skip))
    | ((with_reducible apply RUN_pcall); (focus (intro q hq; simp only [St.ev, St.get, lk, cond] at hq; exact hq.symm)); (focus (intro q hq; simp only [toDs, List.map, List.append, Array.toList, St.ev, St.get, lk, cond, ofConst, AV.toD, AV.toD.toDL, HAppend.hAppend, Append.append] at hq; exact hq.symm)); (focus (exact sameS_con l hl)); (focus (intro q hq; simp only [St.setv, lset, cond, ltb] at hq; exact hq.symm)))
    | ((with_reducible apply RUN_cv); (focus (intro q hq; simp only [St.ev, St.get, lk, cond, ofConst] at hq; exact hq.symm)); all_goals (intro e; first | cases e | (simp only [Bool.not_eq_true', Bool.not_eq_false'] at e; subst e) | skip)))
  (with_reducible apply RUN_ret)
  (focus (intro q hq; simp only [aret, arets, St.get, lk, cond] at hq; exact hq.symm))
  (focus (intro q hq; simp only [keepL, memb, cond] at hq; exact hq.symm))
  (try refine ⟨?_, rfl⟩)
  (try with_reducible rfl)
theorem sameL_con (l : List Hd) (hl : l.length < 4294967296)  (hs : ∀ h ∈ l, h.flags.length < 4294967296) : Pu Try.prog 21 [.list (l.map hfl), .list (l.map hfl), .func (.func 22) [] []] (.bool true) := by
  refine sameL_o (by simp) ?_
  simp only [numb, List.map_cons, List.map_nil, Nat.zero_add]
  repeat' (first
    | with_reducible refine WC_seq ?_
    | with_reducible refine WC_region ?_
    | with_reducible refine WC_skip ?_
    | with_reducible refine WC_ret ?_
    | with_reducible refine WC_exit ?_
    | with_reducible refine WC_block ?_
    | with_reducible refine thenQ_n ?_
    | with_reducible refine thenQ_r ?_
    | with_reducible refine thenQ_e ?_
    | with_reducible refine blockQ_n ?_
    | with_reducible refine blockQ_r ?_
    | with_reducible refine blockQ_e ?_
    | with_reducible refine blockQ_o rfl ?_
    | with_reducible refine WRs_nil ?_
    | ((with_reducible apply RUN_bool); (focus (intro q hq; simp only [go_sem, Nat.reduceAdd, Nat.reduceSub, Nat.reduceMul, List.length_map, beq_self_eq_true, bne_self_eq_false] at hq; exact hq.symm)); (focus (intro b q hq; simp only [St.setv, lset, cond, ltb] at hq; exact hq.symm)); intro bb hb; (first | (with_reducible have h9 : true = bb := hb; clear hb; subst h9) | (with_reducible have h9 : false = bb := hb; clear hb; subst h9) | skip))
    | ((with_reducible apply WRs_nil2); (focus (intro q hq; simp only [nilS, isSl, isConstNil, St.ev, St.get, lk, cond, Bool.and_true, Bool.and_self, tk_22, tk_23, tk_26, tk_27, tk_3, tk_30, tk_4, tk_46, tk_47, tk_9] at hq; exact hq.symm)); (focus (intro b q hq; simp only [St.setv, lset, cond, ltb] at hq; exact hq.symm)); intro bb hb; (first | (with_reducible have h9 : true = bb := hb; clear hb; subst h9) | (with_reducible have h9 : false = bb := hb; clear hb; subst h9) | skip))
    | ((with_reducible apply RUN_n); (focus (intro q hq; simp only [go_sem, Nat.reduceAdd, Nat.reduceSub, Nat.reduceMul, List.length_map, beq_self_eq_true, bne_self_eq_false] at hq; exact hq.symm)))
    | ((with_reducible apply RUN_gt); (focus (intro q hq; simp only [St.get, lk, cond] at hq; exact hq.symm)))
    | ((with_reducible apply WC_draw mx); (focus (intro q hq; simp only [objNames, List.map_cons, List.map_nil, List.filter_cons, List.filter_nil, isObj, lk, cond, if_true, if_false, Bool.false_eq_true] at hq; exact hq.symm)); (focus rfl))
    | with_reducible refine RUND_nil ?_
    | ((with_reducible apply RUND_bool); (focus (intro q hq; simp only [go_sem, Nat.reduceAdd, Nat.reduceSub, Nat.reduceMul, List.length_map, beq_self_eq_true, bne_self_eq_false] at hq; exact hq.symm)); (focus (intro b q hq; simp only [St.setv, lset, cond, ltb] at hq; exact hq.symm)); intro bb hb; (first | (with_reducible have h9 : true = bb := hb; clear hb; subst h9) | (with_reducible have h9 : false = bb := hb; clear hb; subst h9) | skip))
    | ((with_reducible apply RUND_n); (focus (intro q hq; simp only [go_sem, Nat.reduceAdd, Nat.reduceSub, Nat.reduceMul, List.length_map, beq_self_eq_true, bne_self_eq_false] at hq; exact hq.symm)))
    | ((with_reducible apply RUND_lbool); (focus (intro q hq; simp only [laOK, List.all_cons, List.all_nil, St.get, lk, cond, AV.refs, AV.refs.refsL, memb, List.append_nil, Bool.and_true, Bool.true_and, Bool.and_self] at hq; exact hq.symm)); (focus (intro q hq; simp only [go_sem, Nat.reduceAdd, Nat.reduceSub, Nat.reduceMul, List.length_map, beq_self_eq_true, bne_self_eq_false] at hq; exact hq.symm)); (focus (intro b q hq; simp only [St.setv, lset, cond, ltb] at hq; exact hq.symm)); intro bb hb; (first | (with_reducible have h9 : true = bb := hb; clear hb; subst h9) | (with_reducible have h9 : false = bb := hb; clear hb; subst h9) | skip))
    | ((with_reducible apply RUND_l); (focus (intro q hq; simp only [laOK, List.all_cons, List.all_nil, St.get, lk, cond, AV.refs, AV.refs.refsL, memb, List.append_nil, Bool.and_true, Bool.true_and, Bool.and_self] at hq; exact hq.symm)); (focus (intro q hq; simp only [go_sem, Nat.reduceAdd, Nat.reduceSub, Nat.reduceMul, List.length_map, beq_self_eq_true, bne_self_eq_false] at hq; exact hq.symm)))
    | ((with_reducible apply RUND_lm); (focus (intro q hq; simp only [laOK, List.all_cons, List.all_nil, St.get, lk, cond, AV.refs, AV.refs.refsL, memb, List.append_nil, Bool.and_true, Bool.true_and, Bool.and_self] at hq; exact hq.symm)); (focus (intro q hq; simp only [go_sem, Nat.reduceAdd, Nat.reduceSub, Nat.reduceMul, List.length_map, beq_self_eq_true, bne_self_eq_false] at hq; exact hq.symm)))
    | ((with_reducible apply RUND_gt); (focus (intro q hq; simp only [St.get, lk, cond] at hq; exact hq.symm)))
    | ((with_reducible apply RUND_gf); (focus (intro q hq; simp only [sameOn, laOK, List.all_cons, List.all_nil, St.get, lk, lset, cond, AV.refs, AV.refs.refsL, memb, List.append_nil, Bool.and_true, Bool.true_and, Bool.and_self, and_self, and_true, skipOK, eq_self, forall_const, implies_true, false_implies, Bool.false_and, Bool.and_false, Bool.false_eq_true] at hq; subst hq; trivial)); (focus (intro q hq; simp only [St.get, lk, cond] at hq; exact hq.symm)); (focus (intro q hq; simp only [St.setv, lset, cond, ltb] at hq; exact hq.symm)))
    | ((with_reducible apply RUND_gu); (focus (intro q hq; simp only [sameOn, laOK, List.all_cons, List.all_nil, St.get, lk, lset, cond, AV.refs, AV.refs.refsL, memb, List.append_nil, Bool.and_true, Bool.true_and, Bool.and_self, and_self, and_true, skipOK, eq_self, forall_const, implies_true, false_implies, Bool.false_and, Bool.and_false, Bool.false_eq_true] at hq; subst hq; trivial)); (focus (intro q hq; simp only [St.get, lk, cond] at hq; exact hq.symm)); (focus (intro q hq; simp only [St.setv, lset, cond, ltb] at hq; exact hq.symm)))
    | ((with_reducible apply RUND_gv); rotate_left; (focus (intro q hq; simp only [St.get, lk, cond] at hq; exact hq.symm)); (focus (intro q hq; simp only [St.setv, lset, cond, ltb] at hq; exact hq.symm)); rotate_left; rotate_left; (focus (intro q hq; simp only [sameOn, laOK, List.all_cons, List.all_nil, St.get, lk, lset, cond, AV.refs, AV.refs.refsL, memb, List.append_nil, Bool.and_true, Bool.true_and, Bool.and_self, and_self, and_true, skipOK, eq_self, forall_const, implies_true, false_implies, Bool.false_and, Bool.and_false, Bool.false_eq_true] at hq; subst hq; trivial)); intro e; (first | subst e | (simp only [Bool.not_eq_true', Bool.not_eq_false'] at e; subst e)); rotate_left; intro e; simp only [Bool.not_true, Bool.not_false, Bool.not_eq_true', Bool.not_eq_false'] at e; subst e)
    | ((with_reducible apply RUND_ch); (focus (intro q hq; simp only [go_sem, Nat.reduceAdd, Nat.reduceSub, Nat.reduceMul, List.length_map, beq_self_eq_true, bne_self_eq_false] at hq; exact hq.symm)); (focus (intro q hq; simp only [sameOn, laOK, List.all_cons, List.all_nil, St.get, lk, lset, cond, AV.refs, AV.refs.refsL, memb, List.append_nil, Bool.and_true, Bool.true_and, Bool.and_self, and_self, and_true] at hq; subst hq; trivial)); (focus (intro e; first | (cases e; done) | rfl)))
    | ((with_reducible apply RUN_gf); (focus (intro q hq; simp only [St.get, lk, cond] at hq; exact hq.symm)); (focus (intro q hq; simp only [St.setv, lset, cond, ltb] at hq; exact hq.symm)))
    | ((with_reducible apply RUN_gu); (focus (intro q hq; simp only [St.get, lk, cond] at hq; exact hq.symm)); (focus (intro q hq; simp only [St.setv, lset, cond, ltb] at hq; exact hq.symm)))
    | ((with_reducible apply RUN_gv); (focus (intro q hq; simp only [St.get, lk, cond] at hq; exact hq.symm)); (focus (intro q hq; simp only [St.setv, lset, cond, ltb] at hq; exact hq.symm)); intro e; (first | subst e | (simp only [Bool.not_eq_true', Bool.not_eq_false'] at e; subst e)); rotate_left; intro e; simp only [Bool.not_true, Bool.not_false, Bool.not_eq_true', Bool.not_eq_false'] at e; subst e)
    | ((with_reducible apply RUN_ct); (focus (intro q hq; simp only [St.ev, St.get, lk, cond, ofConst] at hq; exact hq.symm)))
    | ((with_reducible apply RUN_cf); (focus (intro q hq; simp only [St.ev, St.get, lk, cond, ofConst] at hq; exact hq.symm)))
    | ((with_reducible apply RUN_phi); (focus (intro q hq; simp only [St.ev, St.get, lk, cond, ofConst] at hq; exact hq.symm)); (focus (intro q hq; simp only [runP, go_sem, Nat.reduceAdd, Nat.reduceSub, Nat.reduceMul, List.length_map, beq_self_eq_true, bne_self_eq_false] at hq; exact hq.symm)); (focus (intro q hq; simp only [phiS, phiAV, phiD, dstsOf, app, lset, St.get, lk, cond, decide_true, if_true] at hq; exact hq.symm)))
    | ((with_reducible apply RUN_phi2); (focus (intro q hq; simp only [St.ev, St.get, lk, cond, ofConst] at hq; exact hq.symm)); (focus (intro q hq; simp only [runP, go_sem, Nat.reduceAdd, Nat.reduceSub, Nat.reduceMul, List.length_map, beq_self_eq_true, bne_self_eq_false] at hq; exact hq.symm)); (focus (intro q hq; simp only [runP, go_sem, Nat.reduceAdd, Nat.reduceSub, Nat.reduceMul, List.length_map, beq_self_eq_true, bne_self_eq_false] at hq; exact hq.symm)); (focus (intro q hq; simp only [phiS, phiAV, phiD, dstsOf, app, lset, St.get, lk, cond, decide_true, if_true] at hq; exact hq.symm)))
    | ((with_reducible apply RUN_cv); (focus (intro q hq; simp only [St.ev, St.get, lk, cond, ofConst] at hq; exact hq.symm)); all_goals (intro e; first | cases e | (simp only [Bool.not_eq_true', Bool.not_eq_false'] at e; subst e) | skip)))
  refine WC_loopI (α := Nat) [0, 1, 2, 7] [] (fun i => i ≤ l.length) (fun i => { n := 30, tm := [(0, .d (.list (l.map hfl))), (1, .d (.list (l.map hfl))), (2, .d (.func (.func 22) [] [])), (7, .d (.int .i64 i))], hp := [] }) (fun i => l.length - i) rfl 0 (by intro q hq; simp only [St.keep, keepL, memb, cond, Bool.false_eq_true, if_false, if_true] at hq; subst hq; first | rfl | (simp only [if_true]; done) | (simp only [if_true]; rfl)) ?_ (fun i hI => ?_)
  · simp
  · skip
    repeat' (first
      | with_reducible refine WC_seq ?_
      | with_reducible refine WC_region ?_
      | with_reducible refine WC_skip ?_
      | with_reducible refine WC_ret ?_
      | with_reducible refine WC_exit ?_
      | with_reducible refine WC_block ?_
      | with_reducible refine thenQ_n ?_
      | with_reducible refine thenQ_r ?_
      | with_reducible refine thenQ_e ?_
      | with_reducible refine blockQ_n ?_
      | with_reducible refine blockQ_r ?_
      | with_reducible refine blockQ_e ?_
      | with_reducible refine blockQ_o rfl ?_
      | with_reducible refine WRs_nil ?_
      | ((with_reducible apply RUN_bool); (focus (intro q hq; simp only [go_sem, Nat.reduceAdd, Nat.reduceSub, Nat.reduceMul, List.length_map] at hq; exact hq.symm)); (focus (intro b q hq; simp only [St.setv, lset, cond, ltb] at hq; exact hq.symm)); intro bb hb; (first | (with_reducible have h9 : true = bb := hb; clear hb; subst h9) | (with_reducible have h9 : false = bb := hb; clear hb; subst h9) | skip))
      | ((with_reducible apply WRs_nil2); (focus (intro q hq; simp only [nilS, isSl, isConstNil, St.ev, St.get, lk, cond, Bool.and_true, Bool.and_self, tk_22, tk_23, tk_26, tk_27, tk_3, tk_30, tk_4, tk_46, tk_47, tk_9] at hq; exact hq.symm)); (focus (intro b q hq; simp only [St.setv, lset, cond, ltb] at hq; exact hq.symm)); intro bb hb; (first | (with_reducible have h9 : true = bb := hb; clear hb; subst h9) | (with_reducible have h9 : false = bb := hb; clear hb; subst h9) | skip))
      | ((with_reducible apply RUN_n); (focus (intro q hq; simp only [go_sem, Nat.reduceAdd, Nat.reduceSub, Nat.reduceMul, List.length_map] at hq; exact hq.symm)))
      | ((with_reducible apply RUN_gt); (focus (intro q hq; simp only [St.get, lk, cond] at hq; exact hq.symm)))
      | ((with_reducible apply WC_draw mx); (focus (intro q hq; simp only [objNames, List.map_cons, List.map_nil, List.filter_cons, List.filter_nil, isObj, lk, cond, if_true, if_false, Bool.false_eq_true] at hq; exact hq.symm)); (focus rfl))
      | with_reducible refine RUND_nil ?_
      | ((with_reducible apply RUND_bool); (focus (intro q hq; simp only [go_sem, Nat.reduceAdd, Nat.reduceSub, Nat.reduceMul, List.length_map] at hq; exact hq.symm)); (focus (intro b q hq; simp only [St.setv, lset, cond, ltb] at hq; exact hq.symm)); intro bb hb; (first | (with_reducible have h9 : true = bb := hb; clear hb; subst h9) | (with_reducible have h9 : false = bb := hb; clear hb; subst h9) | skip))
      | ((with_reducible apply RUND_n); (focus (intro q hq; simp only [go_sem, Nat.reduceAdd, Nat.reduceSub, Nat.reduceMul, List.length_map] at hq; exact hq.symm)))
      | ((with_reducible apply RUND_lbool); (focus (intro q hq; simp only [laOK, List.all_cons, List.all_nil, St.get, lk, cond, AV.refs, AV.refs.refsL, memb, List.append_nil, Bool.and_true, Bool.true_and, Bool.and_self] at hq; exact hq.symm)); (focus (intro q hq; simp only [go_sem, Nat.reduceAdd, Nat.reduceSub, Nat.reduceMul, List.length_map] at hq; exact hq.symm)); (focus (intro b q hq; simp only [St.setv, lset, cond, ltb] at hq; exact hq.symm)); intro bb hb; (first | (with_reducible have h9 : true = bb := hb; clear hb; subst h9) | (with_reducible have h9 : false = bb := hb; clear hb; subst h9) | skip))
      | ((with_reducible apply RUND_l); (focus (intro q hq; simp only [laOK, List.all_cons, List.all_nil, St.get, lk, cond, AV.refs, AV.refs.refsL, memb, List.append_nil, Bool.and_true, Bool.true_and, Bool.and_self] at hq; exact hq.symm)); (focus (intro q hq; simp only [go_sem, Nat.reduceAdd, Nat.reduceSub, Nat.reduceMul, List.length_map] at hq; exact hq.symm)))
      | ((with_reducible apply RUND_lm); (focus (intro q hq; simp only [laOK, List.all_cons, List.all_nil, St.get, lk, cond, AV.refs, AV.refs.refsL, memb, List.append_nil, Bool.and_true, Bool.true_and, Bool.and_self] at hq; exact hq.symm)); (focus (intro q hq; simp only [go_sem, Nat.reduceAdd, Nat.reduceSub, Nat.reduceMul, List.length_map] at hq; exact hq.symm)))
      | ((with_reducible apply RUND_gt); (focus (intro q hq; simp only [St.get, lk, cond] at hq; exact hq.symm)))
      | ((with_reducible apply RUND_gf); (focus (intro q hq; simp only [sameOn, laOK, List.all_cons, List.all_nil, St.get, lk, lset, cond, AV.refs, AV.refs.refsL, memb, List.append_nil, Bool.and_true, Bool.true_and, Bool.and_self, and_self, and_true, skipOK, eq_self, forall_const, implies_true, false_implies, Bool.false_and, Bool.and_false, Bool.false_eq_true] at hq; subst hq; trivial)); (focus (intro q hq; simp only [St.get, lk, cond] at hq; exact hq.symm)); (focus (intro q hq; simp only [St.setv, lset, cond, ltb] at hq; exact hq.symm)))
      | ((with_reducible apply RUND_gu); (focus (intro q hq; simp only [sameOn, laOK, List.all_cons, List.all_nil, St.get, lk, lset, cond, AV.refs, AV.refs.refsL, memb, List.append_nil, Bool.and_true, Bool.true_and, Bool.and_self, and_self, and_true, skipOK, eq_self, forall_const, implies_true, false_implies, Bool.false_and, Bool.and_false, Bool.false_eq_true] at hq; subst hq; trivial)); (focus (intro q hq; simp only [St.get, lk, cond] at hq; exact hq.symm)); (focus (intro q hq; simp only [St.setv, lset, cond, ltb] at hq; exact hq.symm)))
      | ((with_reducible apply RUND_gv); rotate_left; (focus (intro q hq; simp only [St.get, lk, cond] at hq; exact hq.symm)); (focus (intro q hq; simp only [St.setv, lset, cond, ltb] at hq; exact hq.symm)); rotate_left; rotate_left; (focus (intro q hq; simp only [sameOn, laOK, List.all_cons, List.all_nil, St.get, lk, lset, cond, AV.refs, AV.refs.refsL, memb, List.append_nil, Bool.and_true, Bool.true_and, Bool.and_self, and_self, and_true, skipOK, eq_self, forall_const, implies_true, false_implies, Bool.false_and, Bool.and_false, Bool.false_eq_true] at hq; subst hq; trivial)); intro e; (first | subst e | (simp only [Bool.not_eq_true', Bool.not_eq_false'] at e; subst e)); rotate_left; intro e; simp only [Bool.not_true, Bool.not_false, Bool.not_eq_true', Bool.not_eq_false'] at e; subst e)
      | ((with_reducible apply RUND_ch); (focus (intro q hq; simp only [go_sem, Nat.reduceAdd, Nat.reduceSub, Nat.reduceMul, List.length_map] at hq; exact hq.symm)); (focus (intro q hq; simp only [sameOn, laOK, List.all_cons, List.all_nil, St.get, lk, lset, cond, AV.refs, AV.refs.refsL, memb, List.append_nil, Bool.and_true, Bool.true_and, Bool.and_self, and_self, and_true] at hq; subst hq; trivial)); (focus (intro e; first | (cases e; done) | rfl)))
      | ((with_reducible apply RUN_gf); (focus (intro q hq; simp only [St.get, lk, cond] at hq; exact hq.symm)); (focus (intro q hq; simp only [St.setv, lset, cond, ltb] at hq; exact hq.symm)))
      | ((with_reducible apply RUN_gu); (focus (intro q hq; simp only [St.get, lk, cond] at hq; exact hq.symm)); (focus (intro q hq; simp only [St.setv, lset, cond, ltb] at hq; exact hq.symm)))
      | ((with_reducible apply RUN_gv); (focus (intro q hq; simp only [St.get, lk, cond] at hq; exact hq.symm)); (focus (intro q hq; simp only [St.setv, lset, cond, ltb] at hq; exact hq.symm)); intro e; (first | subst e | (simp only [Bool.not_eq_true', Bool.not_eq_false'] at e; subst e)); rotate_left; intro e; simp only [Bool.not_true, Bool.not_false, Bool.not_eq_true', Bool.not_eq_false'] at e; subst e)
      | ((with_reducible apply RUN_ct); (focus (intro q hq; simp only [St.ev, St.get, lk, cond, ofConst] at hq; exact hq.symm)))
      | ((with_reducible apply RUN_cf); (focus (intro q hq; simp only [St.ev, St.get, lk, cond, ofConst] at hq; exact hq.symm)))
      | ((with_reducible apply RUN_phi); (focus (intro q hq; simp only [St.ev, St.get, lk, cond, ofConst] at hq; exact hq.symm)); (focus (intro q hq; simp only [runP, go_sem, Nat.reduceAdd, Nat.reduceSub, Nat.reduceMul, List.length_map] at hq; exact hq.symm)); (focus (intro q hq; simp only [phiS, phiAV, phiD, dstsOf, app, lset, St.get, lk, cond, decide_true, if_true] at hq; exact hq.symm)))
      | ((with_reducible apply RUN_phi2); (focus (intro q hq; simp only [St.ev, St.get, lk, cond, ofConst] at hq; exact hq.symm)); (focus (intro q hq; simp only [runP, go_sem, Nat.reduceAdd, Nat.reduceSub, Nat.reduceMul, List.length_map] at hq; exact hq.symm)); (focus (intro q hq; simp only [runP, go_sem, Nat.reduceAdd, Nat.reduceSub, Nat.reduceMul, List.length_map] at hq; exact hq.symm)); (focus (intro q hq; simp only [phiS, phiAV, phiD, dstsOf, app, lset, St.get, lk, cond, decide_true, if_true] at hq; exact hq.symm)))
      | ((with_reducible apply RUN_cv); (focus (intro q hq; simp only [St.ev, St.get, lk, cond, ofConst] at hq; exact hq.symm)); all_goals (intro e; first | cases e | (simp only [Bool.not_eq_true', Bool.not_eq_false'] at e; subst e) | skip)))
    · have hi : i < l.length := by simpa using hb
      obtain ⟨p, hp⟩ : ∃ p, l[i]? = some p := ⟨_, List.getElem?_eq_getElem hi⟩
      have hpm := List.mem_of_getElem? hp
      have hw := w64_one (i := i) (by omega)
      repeat' (first
        | with_reducible refine WC_seq ?_
        | with_reducible refine WC_region ?_
        | with_reducible refine WC_skip ?_
        | with_reducible refine WC_ret ?_
        | with_reducible refine WC_exit ?_
        | with_reducible refine WC_block ?_
        | with_reducible refine thenQ_n ?_
        | with_reducible refine thenQ_r ?_
        | with_reducible refine thenQ_e ?_
        | with_reducible refine blockQ_n ?_
        | with_reducible refine blockQ_r ?_
        | with_reducible refine blockQ_e ?_
        | with_reducible refine blockQ_o rfl ?_
        | with_reducible refine WRs_nil ?_
        | ((with_reducible apply RUN_bool); (focus (intro q hq; simp only [go_sem, Nat.reduceAdd, Nat.reduceSub, Nat.reduceMul, List.length_map, List.getElem?_map, hp, Option.map_some, hfl] at hq; exact hq.symm)); (focus (intro b q hq; simp only [St.setv, lset, cond, ltb] at hq; exact hq.symm)); intro bb hb; (first | (with_reducible have h9 : true = bb := hb; clear hb; subst h9) | (with_reducible have h9 : false = bb := hb; clear hb; subst h9) | skip))
        | ((with_reducible apply WRs_nil2); (focus (intro q hq; simp only [nilS, isSl, isConstNil, St.ev, St.get, lk, cond, Bool.and_true, Bool.and_self, tk_22, tk_23, tk_26, tk_27, tk_3, tk_30, tk_4, tk_46, tk_47, tk_9] at hq; exact hq.symm)); (focus (intro b q hq; simp only [St.setv, lset, cond, ltb] at hq; exact hq.symm)); intro bb hb; (first | (with_reducible have h9 : true = bb := hb; clear hb; subst h9) | (with_reducible have h9 : false = bb := hb; clear hb; subst h9) | skip))
        | ((with_reducible apply RUN_n); (focus (intro q hq; simp only [go_sem, Nat.reduceAdd, Nat.reduceSub, Nat.reduceMul, List.length_map, List.getElem?_map, hp, Option.map_some, hfl] at hq; exact hq.symm)))
        | ((with_reducible apply RUN_gt); (focus (intro q hq; simp only [St.get, lk, cond] at hq; exact hq.symm)))
        | ((with_reducible apply WC_draw mx); (focus (intro q hq; simp only [objNames, List.map_cons, List.map_nil, List.filter_cons, List.filter_nil, isObj, lk, cond, if_true, if_false, Bool.false_eq_true] at hq; exact hq.symm)); (focus rfl))
        | with_reducible refine RUND_nil ?_
        | ((with_reducible apply RUND_bool); (focus (intro q hq; simp only [go_sem, Nat.reduceAdd, Nat.reduceSub, Nat.reduceMul, List.length_map, List.getElem?_map, hp, Option.map_some, hfl] at hq; exact hq.symm)); (focus (intro b q hq; simp only [St.setv, lset, cond, ltb] at hq; exact hq.symm)); intro bb hb; (first | (with_reducible have h9 : true = bb := hb; clear hb; subst h9) | (with_reducible have h9 : false = bb := hb; clear hb; subst h9) | skip))
        | ((with_reducible apply RUND_n); (focus (intro q hq; simp only [go_sem, Nat.reduceAdd, Nat.reduceSub, Nat.reduceMul, List.length_map, List.getElem?_map, hp, Option.map_some, hfl] at hq; exact hq.symm)))
        | ((with_reducible apply RUND_lbool); (focus (intro q hq; simp only [laOK, List.all_cons, List.all_nil, St.get, lk, cond, AV.refs, AV.refs.refsL, memb, List.append_nil, Bool.and_true, Bool.true_and, Bool.and_self] at hq; exact hq.symm)); (focus (intro q hq; simp only [go_sem, Nat.reduceAdd, Nat.reduceSub, Nat.reduceMul, List.length_map, List.getElem?_map, hp, Option.map_some, hfl] at hq; exact hq.symm)); (focus (intro b q hq; simp only [St.setv, lset, cond, ltb] at hq; exact hq.symm)); intro bb hb; (first | (with_reducible have h9 : true = bb := hb; clear hb; subst h9) | (with_reducible have h9 : false = bb := hb; clear hb; subst h9) | skip))
        | ((with_reducible apply RUND_l); (focus (intro q hq; simp only [laOK, List.all_cons, List.all_nil, St.get, lk, cond, AV.refs, AV.refs.refsL, memb, List.append_nil, Bool.and_true, Bool.true_and, Bool.and_self] at hq; exact hq.symm)); (focus (intro q hq; simp only [go_sem, Nat.reduceAdd, Nat.reduceSub, Nat.reduceMul, List.length_map, List.getElem?_map, hp, Option.map_some, hfl] at hq; exact hq.symm)))
        | ((with_reducible apply RUND_lm); (focus (intro q hq; simp only [laOK, List.all_cons, List.all_nil, St.get, lk, cond, AV.refs, AV.refs.refsL, memb, List.append_nil, Bool.and_true, Bool.true_and, Bool.and_self] at hq; exact hq.symm)); (focus (intro q hq; simp only [go_sem, Nat.reduceAdd, Nat.reduceSub, Nat.reduceMul, List.length_map, List.getElem?_map, hp, Option.map_some, hfl] at hq; exact hq.symm)))
        | ((with_reducible apply RUND_gt); (focus (intro q hq; simp only [St.get, lk, cond] at hq; exact hq.symm)))
        | ((with_reducible apply RUND_gf); (focus (intro q hq; simp only [sameOn, laOK, List.all_cons, List.all_nil, St.get, lk, lset, cond, AV.refs, AV.refs.refsL, memb, List.append_nil, Bool.and_true, Bool.true_and, Bool.and_self, and_self, and_true, skipOK, eq_self, forall_const, implies_true, false_implies, Bool.false_and, Bool.and_false, Bool.false_eq_true] at hq; subst hq; trivial)); (focus (intro q hq; simp only [St.get, lk, cond] at hq; exact hq.symm)); (focus (intro q hq; simp only [St.setv, lset, cond, ltb] at hq; exact hq.symm)))
        | ((with_reducible apply RUND_gu); (focus (intro q hq; simp only [sameOn, laOK, List.all_cons, List.all_nil, St.get, lk, lset, cond, AV.refs, AV.refs.refsL, memb, List.append_nil, Bool.and_true, Bool.true_and, Bool.and_self, and_self, and_true, skipOK, eq_self, forall_const, implies_true, false_implies, Bool.false_and, Bool.and_false, Bool.false_eq_true] at hq; subst hq; trivial)); (focus (intro q hq; simp only [St.get, lk, cond] at hq; exact hq.symm)); (focus (intro q hq; simp only [St.setv, lset, cond, ltb] at hq; exact hq.symm)))
        | ((with_reducible apply RUND_gv); rotate_left; (focus (intro q hq; simp only [St.get, lk, cond] at hq; exact hq.symm)); (focus (intro q hq; simp only [St.setv, lset, cond, ltb] at hq; exact hq.symm)); rotate_left; rotate_left; (focus (intro q hq; simp only [sameOn, laOK, List.all_cons, List.all_nil, St.get, lk, lset, cond, AV.refs, AV.refs.refsL, memb, List.append_nil, Bool.and_true, Bool.true_and, Bool.and_self, and_self, and_true, skipOK, eq_self, forall_const, implies_true, false_implies, Bool.false_and, Bool.and_false, Bool.false_eq_true] at hq; subst hq; trivial)); intro e; (first | subst e | (simp only [Bool.not_eq_true', Bool.not_eq_false'] at e; subst e)); rotate_left; intro e; simp only [Bool.not_true, Bool.not_false, Bool.not_eq_true', Bool.not_eq_false'] at e; subst e)
        | ((with_reducible apply RUND_ch); (focus (intro q hq; simp only [go_sem, Nat.reduceAdd, Nat.reduceSub, Nat.reduceMul, List.length_map, List.getElem?_map, hp, Option.map_some, hfl] at hq; exact hq.symm)); (focus (intro q hq; simp only [sameOn, laOK, List.all_cons, List.all_nil, St.get, lk, lset, cond, AV.refs, AV.refs.refsL, memb, List.append_nil, Bool.and_true, Bool.true_and, Bool.and_self, and_self, and_true] at hq; subst hq; trivial)); (focus (intro e; first | (cases e; done) | rfl)))
        | ((with_reducible apply RUN_gf); (focus (intro q hq; simp only [St.get, lk, cond] at hq; exact hq.symm)); (focus (intro q hq; simp only [St.setv, lset, cond, ltb] at hq; exact hq.symm)))
        | ((with_reducible apply RUN_gu); (focus (intro q hq; simp only [St.get, lk, cond] at hq; exact hq.symm)); (focus (intro q hq; simp only [St.setv, lset, cond, ltb] at hq; exact hq.symm)))
        | ((with_reducible apply RUN_gv); (focus (intro q hq; simp only [St.get, lk, cond] at hq; exact hq.symm)); (focus (intro q hq; simp only [St.setv, lset, cond, ltb] at hq; exact hq.symm)); intro e; (first | subst e | (simp only [Bool.not_eq_true', Bool.not_eq_false'] at e; subst e)); rotate_left; intro e; simp only [Bool.not_true, Bool.not_false, Bool.not_eq_true', Bool.not_eq_false'] at e; subst e)
        | ((with_reducible apply RUN_ct); (focus (intro q hq; simp only [St.ev, St.get, lk, cond, ofConst] at hq; exact hq.symm)))
        | ((with_reducible apply RUN_cf); (focus (intro q hq; simp only [St.ev, St.get, lk, cond, ofConst] at hq; exact hq.symm)))
        | ((with_reducible apply RUN_phi); (focus (intro q hq; simp only [St.ev, St.get, lk, cond, ofConst] at hq; exact hq.symm)); (focus (intro q hq; simp only [runP, go_sem, Nat.reduceAdd, Nat.reduceSub, Nat.reduceMul, List.length_map, List.getElem?_map, hp, Option.map_some, hfl] at hq; exact hq.symm)); (focus (intro q hq; simp only [phiS, phiAV, phiD, dstsOf, app, lset, St.get, lk, cond, decide_true, if_true] at hq; exact hq.symm)))
        | ((with_reducible apply RUN_phi2); (focus (intro q hq; simp only [St.ev, St.get, lk, cond, ofConst] at hq; exact hq.symm)); (focus (intro q hq; simp only [runP, go_sem, Nat.reduceAdd, Nat.reduceSub, Nat.reduceMul, List.length_map, List.getElem?_map, hp, Option.map_some, hfl] at hq; exact hq.symm)); (focus (intro q hq; simp only [runP, go_sem, Nat.reduceAdd, Nat.reduceSub, Nat.reduceMul, List.length_map, List.getElem?_map, hp, Option.map_some, hfl] at hq; exact hq.symm)); (focus (intro q hq; simp only [phiS, phiAV, phiD, dstsOf, app, lset, St.get, lk, cond, decide_true, if_true] at hq; exact hq.symm)))
        | ((with_reducible apply RUN_pcallB); (focus (intro q hq; simp only [St.ev, St.get, lk, cond] at hq; exact hq.symm)); (focus (intro q hq; simp only [toDs, List.map, List.append, Array.toList, St.ev, St.get, lk, cond, ofConst, AV.toD, AV.toD.toDL, HAppend.hAppend, Append.append] at hq; exact hq.symm)); (focus (exact plainS_con p.flags (hs p hpm))); (focus (intro b q hq; simp only [St.setv, lset, cond, ltb] at hq; exact hq.symm)); intro bb hb; (first | (with_reducible have h9 : true = bb := hb; clear hb; subst h9) | (with_reducible have h9 : false = bb := hb; clear hb; subst h9) | skip))
        | ((with_reducible apply RUND_pcallB); (focus (intro q hq; simp only [St.ev, St.get, lk, cond] at hq; exact hq.symm)); (focus (intro q hq; simp only [toDs, List.map, List.append, Array.toList, St.ev, St.get, lk, cond, ofConst, AV.toD, AV.toD.toDL, HAppend.hAppend, Append.append] at hq; exact hq.symm)); (focus (exact plainS_con p.flags (hs p hpm))); (focus (intro b q hq; simp only [St.setv, lset, cond, ltb] at hq; exact hq.symm)); (focus (intro b q hq; simp only [sameOn, laOK, List.all_cons, List.all_nil, St.get, lk, lset, cond, AV.refs, AV.refs.refsL, memb, List.append_nil, Bool.and_true, Bool.true_and, Bool.and_self, and_self, and_true] at hq; subst hq; trivial)); intro bb hb; (first | (with_reducible have h9 : true = bb := hb; clear hb; subst h9) | (with_reducible have h9 : false = bb := hb; clear hb; subst h9) | skip))
        | ((with_reducible apply RUN_pcall); (focus (intro q hq; simp only [St.ev, St.get, lk, cond] at hq; exact hq.symm)); (focus (intro q hq; simp only [toDs, List.map, List.append, Array.toList, St.ev, St.get, lk, cond, ofConst, AV.toD, AV.toD.toDL, HAppend.hAppend, Append.append] at hq; exact hq.symm)); (focus (exact plainS_con p.flags (hs p hpm))); (focus (intro q hq; simp only [St.setv, lset, cond, ltb] at hq; exact hq.symm)))
        | ((with_reducible apply RUND_pcall); (focus (intro q hq; simp only [St.ev, St.get, lk, cond] at hq; exact hq.symm)); (focus (intro q hq; simp only [toDs, List.map, List.append, Array.toList, St.ev, St.get, lk, cond, ofConst, AV.toD, AV.toD.toDL, HAppend.hAppend, Append.append] at hq; exact hq.symm)); (focus (exact plainS_con p.flags (hs p hpm))); (focus (intro q hq; simp only [St.setv, lset, cond, ltb] at hq; exact hq.symm)); (focus (intro q hq; simp only [sameOn, laOK, List.all_cons, List.all_nil, St.get, lk, lset, cond, AV.refs, AV.refs.refsL, memb, List.append_nil, Bool.and_true, Bool.true_and, Bool.and_self, and_self, and_true] at hq; subst hq; trivial)))
        | ((with_reducible apply RUN_cv); (focus (intro q hq; simp only [St.ev, St.get, lk, cond, ofConst] at hq; exact hq.symm)); all_goals (intro e; first | cases e | (simp only [Bool.not_eq_true', Bool.not_eq_false'] at e; subst e) | skip)))
      refine ⟨i + 1, by omega, by omega, ?_⟩
      (intro q hq; simp only [St.keep, keepL, memb, cond, Bool.false_eq_true, if_false] at hq; subst hq; first | rfl | (simp only [hw]; done) | (simp only [hw]; rfl))
    · skip
      repeat' (first
        | with_reducible refine WC_seq ?_
        | with_reducible refine WC_region ?_
        | with_reducible refine WC_skip ?_
        | with_reducible refine WC_ret ?_
        | with_reducible refine WC_exit ?_
        | with_reducible refine WC_block ?_
        | with_reducible refine thenQ_n ?_
        | with_reducible refine thenQ_r ?_
        | with_reducible refine thenQ_e ?_
        | with_reducible refine blockQ_n ?_
        | with_reducible refine blockQ_r ?_
        | with_reducible refine blockQ_e ?_
        | with_reducible refine blockQ_o rfl ?_
        | with_reducible refine WRs_nil ?_
        | ((with_reducible apply RUN_bool); (focus (intro q hq; simp only [go_sem, Nat.reduceAdd, Nat.reduceSub, Nat.reduceMul] at hq; exact hq.symm)); (focus (intro b q hq; simp only [St.setv, lset, cond, ltb] at hq; exact hq.symm)); intro bb hb; (first | (with_reducible have h9 : true = bb := hb; clear hb; subst h9) | (with_reducible have h9 : false = bb := hb; clear hb; subst h9) | skip))
        | ((with_reducible apply WRs_nil2); (focus (intro q hq; simp only [nilS, isSl, isConstNil, St.ev, St.get, lk, cond, Bool.and_true, Bool.and_self, tk_22, tk_23, tk_26, tk_27, tk_3, tk_30, tk_4, tk_46, tk_47, tk_9] at hq; exact hq.symm)); (focus (intro b q hq; simp only [St.setv, lset, cond, ltb] at hq; exact hq.symm)); intro bb hb; (first | (with_reducible have h9 : true = bb := hb; clear hb; subst h9) | (with_reducible have h9 : false = bb := hb; clear hb; subst h9) | skip))
        | ((with_reducible apply RUN_n); (focus (intro q hq; simp only [go_sem, Nat.reduceAdd, Nat.reduceSub, Nat.reduceMul] at hq; exact hq.symm)))
        | ((with_reducible apply RUN_gt); (focus (intro q hq; simp only [St.get, lk, cond] at hq; exact hq.symm)))
        | ((with_reducible apply WC_draw mx); (focus (intro q hq; simp only [objNames, List.map_cons, List.map_nil, List.filter_cons, List.filter_nil, isObj, lk, cond, if_true, if_false, Bool.false_eq_true] at hq; exact hq.symm)); (focus rfl))
        | with_reducible refine RUND_nil ?_
        | ((with_reducible apply RUND_bool); (focus (intro q hq; simp only [go_sem, Nat.reduceAdd, Nat.reduceSub, Nat.reduceMul] at hq; exact hq.symm)); (focus (intro b q hq; simp only [St.setv, lset, cond, ltb] at hq; exact hq.symm)); intro bb hb; (first | (with_reducible have h9 : true = bb := hb; clear hb; subst h9) | (with_reducible have h9 : false = bb := hb; clear hb; subst h9) | skip))
        | ((with_reducible apply RUND_n); (focus (intro q hq; simp only [go_sem, Nat.reduceAdd, Nat.reduceSub, Nat.reduceMul] at hq; exact hq.symm)))
        | ((with_reducible apply RUND_lbool); (focus (intro q hq; simp only [laOK, List.all_cons, List.all_nil, St.get, lk, cond, AV.refs, AV.refs.refsL, memb, List.append_nil, Bool.and_true, Bool.true_and, Bool.and_self] at hq; exact hq.symm)); (focus (intro q hq; simp only [go_sem, Nat.reduceAdd, Nat.reduceSub, Nat.reduceMul] at hq; exact hq.symm)); (focus (intro b q hq; simp only [St.setv, lset, cond, ltb] at hq; exact hq.symm)); intro bb hb; (first | (with_reducible have h9 : true = bb := hb; clear hb; subst h9) | (with_reducible have h9 : false = bb := hb; clear hb; subst h9) | skip))
        | ((with_reducible apply RUND_l); (focus (intro q hq; simp only [laOK, List.all_cons, List.all_nil, St.get, lk, cond, AV.refs, AV.refs.refsL, memb, List.append_nil, Bool.and_true, Bool.true_and, Bool.and_self] at hq; exact hq.symm)); (focus (intro q hq; simp only [go_sem, Nat.reduceAdd, Nat.reduceSub, Nat.reduceMul] at hq; exact hq.symm)))
        | ((with_reducible apply RUND_lm); (focus (intro q hq; simp only [laOK, List.all_cons, List.all_nil, St.get, lk, cond, AV.refs, AV.refs.refsL, memb, List.append_nil, Bool.and_true, Bool.true_and, Bool.and_self] at hq; exact hq.symm)); (focus (intro q hq; simp only [go_sem, Nat.reduceAdd, Nat.reduceSub, Nat.reduceMul] at hq; exact hq.symm)))
        | ((with_reducible apply RUND_gt); (focus (intro q hq; simp only [St.get, lk, cond] at hq; exact hq.symm)))
        | ((with_reducible apply RUND_gf); (focus (intro q hq; simp only [sameOn, laOK, List.all_cons, List.all_nil, St.get, lk, lset, cond, AV.refs, AV.refs.refsL, memb, List.append_nil, Bool.and_true, Bool.true_and, Bool.and_self, and_self, and_true, skipOK, eq_self, forall_const, implies_true, false_implies, Bool.false_and, Bool.and_false, Bool.false_eq_true] at hq; subst hq; trivial)); (focus (intro q hq; simp only [St.get, lk, cond] at hq; exact hq.symm)); (focus (intro q hq; simp only [St.setv, lset, cond, ltb] at hq; exact hq.symm)))
        | ((with_reducible apply RUND_gu); (focus (intro q hq; simp only [sameOn, laOK, List.all_cons, List.all_nil, St.get, lk, lset, cond, AV.refs, AV.refs.refsL, memb, List.append_nil, Bool.and_true, Bool.true_and, Bool.and_self, and_self, and_true, skipOK, eq_self, forall_const, implies_true, false_implies, Bool.false_and, Bool.and_false, Bool.false_eq_true] at hq; subst hq; trivial)); (focus (intro q hq; simp only [St.get, lk, cond] at hq; exact hq.symm)); (focus (intro q hq; simp only [St.setv, lset, cond, ltb] at hq; exact hq.symm)))
        | ((with_reducible apply RUND_gv); rotate_left; (focus (intro q hq; simp only [St.get, lk, cond] at hq; exact hq.symm)); (focus (intro q hq; simp only [St.setv, lset, cond, ltb] at hq; exact hq.symm)); rotate_left; rotate_left; (focus (intro q hq; simp only [sameOn, laOK, List.all_cons, List.all_nil, St.get, lk, lset, cond, AV.refs, AV.refs.refsL, memb, List.append_nil, Bool.and_true, Bool.true_and, Bool.and_self, and_self, and_true, skipOK, eq_self, forall_const, implies_true, false_implies, Bool.false_and, Bool.and_false, Bool.false_eq_true] at hq; subst hq; trivial)); intro e; (first | subst e | (simp only [Bool.not_eq_true', Bool.not_eq_false'] at e; subst e)); rotate_left; intro e; simp only [Bool.not_true, Bool.not_false, Bool.not_eq_true', Bool.not_eq_false'] at e; subst e)
        | ((with_reducible apply RUND_ch); (focus (intro q hq; simp only [go_sem, Nat.reduceAdd, Nat.reduceSub, Nat.reduceMul] at hq; exact hq.symm)); (focus (intro q hq; simp only [sameOn, laOK, List.all_cons, List.all_nil, St.get, lk, lset, cond, AV.refs, AV.refs.refsL, memb, List.append_nil, Bool.and_true, Bool.true_and, Bool.and_self, and_self, and_true] at hq; subst hq; trivial)); (focus (intro e; first | (cases e; done) | rfl)))
        | ((with_reducible apply RUN_gf); (focus (intro q hq; simp only [St.get, lk, cond] at hq; exact hq.symm)); (focus (intro q hq; simp only [St.setv, lset, cond, ltb] at hq; exact hq.symm)))
        | ((with_reducible apply RUN_gu); (focus (intro q hq; simp only [St.get, lk, cond] at hq; exact hq.symm)); (focus (intro q hq; simp only [St.setv, lset, cond, ltb] at hq; exact hq.symm)))
        | ((with_reducible apply RUN_gv); (focus (intro q hq; simp only [St.get, lk, cond] at hq; exact hq.symm)); (focus (intro q hq; simp only [St.setv, lset, cond, ltb] at hq; exact hq.symm)); intro e; (first | subst e | (simp only [Bool.not_eq_true', Bool.not_eq_false'] at e; subst e)); rotate_left; intro e; simp only [Bool.not_true, Bool.not_false, Bool.not_eq_true', Bool.not_eq_false'] at e; subst e)
        | ((with_reducible apply RUN_ct); (focus (intro q hq; simp only [St.ev, St.get, lk, cond, ofConst] at hq; exact hq.symm)))
        | ((with_reducible apply RUN_cf); (focus (intro q hq; simp only [St.ev, St.get, lk, cond, ofConst] at hq; exact hq.symm)))
        | ((with_reducible apply RUN_phi); (focus (intro q hq; simp only [St.ev, St.get, lk, cond, ofConst] at hq; exact hq.symm)); (focus (intro q hq; simp only [runP, go_sem, Nat.reduceAdd, Nat.reduceSub, Nat.reduceMul] at hq; exact hq.symm)); (focus (intro q hq; simp only [phiS, phiAV, phiD, dstsOf, app, lset, St.get, lk, cond, decide_true, if_true] at hq; exact hq.symm)))
        | ((with_reducible apply RUN_phi2); (focus (intro q hq; simp only [St.ev, St.get, lk, cond, ofConst] at hq; exact hq.symm)); (focus (intro q hq; simp only [runP, go_sem, Nat.reduceAdd, Nat.reduceSub, Nat.reduceMul] at hq; exact hq.symm)); (focus (intro q hq; simp only [runP, go_sem, Nat.reduceAdd, Nat.reduceSub, Nat.reduceMul] at hq; exact hq.symm)); (focus (intro q hq; simp only [phiS, phiAV, phiD, dstsOf, app, lset, St.get, lk, cond, decide_true, if_true] at hq; exact hq.symm)))
        | ((with_reducible apply RUN_cv); (focus (intro q hq; simp only [St.ev, St.get, lk, cond, ofConst] at hq; exact hq.symm)); all_goals (intro e; first | cases e | (simp only [Bool.not_eq_true', Bool.not_eq_false'] at e; subst e) | skip)))
      (with_reducible apply RUN_ret)
      (focus (intro q hq; simp only [aret, arets, St.get, lk, cond] at hq; exact hq.symm))
      (focus (intro q hq; simp only [keepL, memb, cond] at hq; exact hq.symm))
      (try refine ⟨?_, rfl⟩)
      (try with_reducible rfl)
theorem sbytes_con (l : List UInt8) (hl : l.length < 4294967296) : Pu Try.prog 39 [.list (l.map u8), .list (l.map u8)] (.bool true) := by
  refine sbytes_o (by simp) ?_
  simp only [numb, List.map_cons, List.map_nil, Nat.zero_add]
  repeat' (first
    | with_reducible refine WC_seq ?_
    | with_reducible refine WC_region ?_
    | with_reducible refine WC_skip ?_
    | with_reducible refine WC_ret ?_
    | with_reducible refine WC_exit ?_
    | with_reducible refine WC_block ?_
    | with_reducible refine thenQ_n ?_
    | with_reducible refine thenQ_r ?_
    | with_reducible refine thenQ_e ?_
    | with_reducible refine blockQ_n ?_
    | with_reducible refine blockQ_r ?_
    | with_reducible refine blockQ_e ?_
    | with_reducible refine blockQ_o rfl ?_
    | with_reducible refine WRs_nil ?_
    | ((with_reducible apply RUN_bool); (focus (intro q hq; simp only [go_sem, Nat.reduceAdd, Nat.reduceSub, Nat.reduceMul, beq_self_eq_true, List.length_map] at hq; exact hq.symm)); (focus (intro b q hq; simp only [St.setv, lset, cond, ltb] at hq; exact hq.symm)); intro bb hb; (first | (with_reducible have h9 : true = bb := hb; clear hb; subst h9) | (with_reducible have h9 : false = bb := hb; clear hb; subst h9) | skip))
    | ((with_reducible apply WRs_nil2); (focus (intro q hq; simp only [nilS, isSl, isConstNil, St.ev, St.get, lk, cond, Bool.and_true, Bool.and_self, tk_22, tk_23, tk_26, tk_27, tk_3, tk_30, tk_4, tk_46, tk_47, tk_9] at hq; exact hq.symm)); (focus (intro b q hq; simp only [St.setv, lset, cond, ltb] at hq; exact hq.symm)); intro bb hb; (first | (with_reducible have h9 : true = bb := hb; clear hb; subst h9) | (with_reducible have h9 : false = bb := hb; clear hb; subst h9) | skip))
    | ((with_reducible apply RUN_n); (focus (intro q hq; simp only [go_sem, Nat.reduceAdd, Nat.reduceSub, Nat.reduceMul, beq_self_eq_true, List.length_map] at hq; exact hq.symm)))
    | ((with_reducible apply RUN_gt); (focus (intro q hq; simp only [St.get, lk, cond] at hq; exact hq.symm)))
    | ((with_reducible apply RUN_gf); (focus (intro q hq; simp only [St.get, lk, cond] at hq; exact hq.symm)); (focus (intro q hq; simp only [St.setv, lset, cond, ltb] at hq; exact hq.symm)))
    | ((with_reducible apply RUN_gu); (focus (intro q hq; simp only [St.get, lk, cond] at hq; exact hq.symm)); (focus (intro q hq; simp only [St.setv, lset, cond, ltb] at hq; exact hq.symm)))
    | ((with_reducible apply RUN_gv); (focus (intro q hq; simp only [St.get, lk, cond] at hq; exact hq.symm)); (focus (intro q hq; simp only [St.setv, lset, cond, ltb] at hq; exact hq.symm)); intro e; (first | subst e | (simp only [Bool.not_eq_true', Bool.not_eq_false'] at e; subst e)); rotate_left; intro e; simp only [Bool.not_true, Bool.not_false, Bool.not_eq_true', Bool.not_eq_false'] at e; subst e)
    | ((with_reducible apply RUN_ct); (focus (intro q hq; simp only [St.ev, St.get, lk, cond, ofConst] at hq; exact hq.symm)))
    | ((with_reducible apply RUN_cf); (focus (intro q hq; simp only [St.ev, St.get, lk, cond, ofConst] at hq; exact hq.symm)))
    | ((with_reducible apply RUN_phi); (focus (intro q hq; simp only [St.ev, St.get, lk, cond, ofConst] at hq; exact hq.symm)); (focus (intro q hq; simp only [runP, go_sem, Nat.reduceAdd, Nat.reduceSub, Nat.reduceMul, beq_self_eq_true, List.length_map] at hq; exact hq.symm)); (focus (intro q hq; simp only [phiS, phiAV, phiD, dstsOf, app, lset, St.get, lk, cond, decide_true, if_true] at hq; exact hq.symm)))
    | ((with_reducible apply RUN_phi2); (focus (intro q hq; simp only [St.ev, St.get, lk, cond, ofConst] at hq; exact hq.symm)); (focus (intro q hq; simp only [runP, go_sem, Nat.reduceAdd, Nat.reduceSub, Nat.reduceMul, beq_self_eq_true, List.length_map] at hq; exact hq.symm)); (focus (intro q hq; simp only [runP, go_sem, Nat.reduceAdd, Nat.reduceSub, Nat.reduceMul, beq_self_eq_true, List.length_map] at hq; exact hq.symm)); (focus (intro q hq; simp only [phiS, phiAV, phiD, dstsOf, app, lset, St.get, lk, cond, decide_true, if_true] at hq; exact hq.symm)))
    | ((with_reducible apply RUN_cv); (focus (intro q hq; simp only [St.ev, St.get, lk, cond, ofConst] at hq; exact hq.symm)); all_goals (intro e; first | cases e | (simp only [Bool.not_eq_true', Bool.not_eq_false'] at e; subst e) | skip)))
  (with_reducible apply RUN_ret)
  (focus (intro q hq; simp only [aret, arets, St.get, lk, cond] at hq; exact hq.symm))
  (focus (intro q hq; simp only [keepL, memb, cond] at hq; exact hq.symm))
  (try refine ⟨?_, rfl⟩)
  (try with_reducible rfl)
theorem copied_con (l : List (List UInt8)) (hl : l.length < 4294967296) : Pu Try.prog 25 [.list (strs l)] (.list (strs l)) := by
  refine copied_o (by simp) ?_
  simp only [numb, List.map_cons, List.map_nil, Nat.zero_add]
  have hc : (l.length * 16 ≤ 140737488355328) = True := eq_true (by omega)
  repeat' (first
    | with_reducible refine WC_seq ?_
    | with_reducible refine WC_region ?_
    | with_reducible refine WC_skip ?_
    | with_reducible refine WC_ret ?_
    | with_reducible refine WC_exit ?_
    | with_reducible refine WC_block ?_
    | with_reducible refine thenQ_n ?_
    | with_reducible refine thenQ_r ?_
    | with_reducible refine thenQ_e ?_
    | with_reducible refine blockQ_n ?_
    | with_reducible refine blockQ_r ?_
    | with_reducible refine blockQ_e ?_
    | with_reducible refine blockQ_o rfl ?_
    | with_reducible refine WRs_nil ?_
    | ((with_reducible apply RUN_bool); (focus (intro q hq; simp only [go_sem, Nat.reduceAdd, Nat.reduceSub, Nat.reduceMul, strs_all, strs_all2, strs_len, hc, List.length_nil, Nat.zero_add] at hq; exact hq.symm)); (focus (intro b q hq; simp only [St.setv, lset, cond, ltb] at hq; exact hq.symm)); intro bb hb; (first | (with_reducible have h9 : true = bb := hb; clear hb; subst h9) | (with_reducible have h9 : false = bb := hb; clear hb; subst h9) | skip))
    | ((with_reducible apply WRs_nil2); (focus (intro q hq; simp only [nilS, isSl, isConstNil, St.ev, St.get, lk, cond, Bool.and_true, Bool.and_self, tk_22, tk_23, tk_26, tk_27, tk_3, tk_30, tk_4, tk_46, tk_47, tk_9] at hq; exact hq.symm)); (focus (intro b q hq; simp only [St.setv, lset, cond, ltb] at hq; exact hq.symm)); intro bb hb; (first | (with_reducible have h9 : true = bb := hb; clear hb; subst h9) | (with_reducible have h9 : false = bb := hb; clear hb; subst h9) | skip))
    | ((with_reducible apply RUN_n); (focus (intro q hq; simp only [go_sem, Nat.reduceAdd, Nat.reduceSub, Nat.reduceMul, strs_all, strs_all2, strs_len, hc, List.length_nil, Nat.zero_add] at hq; exact hq.symm)))
    | ((with_reducible apply RUN_gt); (focus (intro q hq; simp only [St.get, lk, cond] at hq; exact hq.symm)))
    | ((with_reducible apply RUN_gf); (focus (intro q hq; simp only [St.get, lk, cond] at hq; exact hq.symm)); (focus (intro q hq; simp only [St.setv, lset, cond, ltb] at hq; exact hq.symm)))
    | ((with_reducible apply RUN_gu); (focus (intro q hq; simp only [St.get, lk, cond] at hq; exact hq.symm)); (focus (intro q hq; simp only [St.setv, lset, cond, ltb] at hq; exact hq.symm)))
    | ((with_reducible apply RUN_gv); (focus (intro q hq; simp only [St.get, lk, cond] at hq; exact hq.symm)); (focus (intro q hq; simp only [St.setv, lset, cond, ltb] at hq; exact hq.symm)); intro e; (first | subst e | (simp only [Bool.not_eq_true', Bool.not_eq_false'] at e; subst e)); rotate_left; intro e; simp only [Bool.not_true, Bool.not_false, Bool.not_eq_true', Bool.not_eq_false'] at e; subst e)
    | ((with_reducible apply RUN_ct); (focus (intro q hq; simp only [St.ev, St.get, lk, cond, ofConst] at hq; exact hq.symm)))
    | ((with_reducible apply RUN_cf); (focus (intro q hq; simp only [St.ev, St.get, lk, cond, ofConst] at hq; exact hq.symm)))
    | ((with_reducible apply RUN_phi); (focus (intro q hq; simp only [St.ev, St.get, lk, cond, ofConst] at hq; exact hq.symm)); (focus (intro q hq; simp only [runP, go_sem, Nat.reduceAdd, Nat.reduceSub, Nat.reduceMul, strs_all, strs_all2, strs_len, hc, List.length_nil, Nat.zero_add] at hq; exact hq.symm)); (focus (intro q hq; simp only [phiS, phiAV, phiD, dstsOf, app, lset, St.get, lk, cond, decide_true, if_true] at hq; exact hq.symm)))
    | ((with_reducible apply RUN_phi2); (focus (intro q hq; simp only [St.ev, St.get, lk, cond, ofConst] at hq; exact hq.symm)); (focus (intro q hq; simp only [runP, go_sem, Nat.reduceAdd, Nat.reduceSub, Nat.reduceMul, strs_all, strs_all2, strs_len, hc, List.length_nil, Nat.zero_add] at hq; exact hq.symm)); (focus (intro q hq; simp only [runP, go_sem, Nat.reduceAdd, Nat.reduceSub, Nat.reduceMul, strs_all, strs_all2, strs_len, hc, List.length_nil, Nat.zero_add] at hq; exact hq.symm)); (focus (intro q hq; simp only [phiS, phiAV, phiD, dstsOf, app, lset, St.get, lk, cond, decide_true, if_true] at hq; exact hq.symm)))
    | ((with_reducible apply RUN_cv); (focus (intro q hq; simp only [St.ev, St.get, lk, cond, ofConst] at hq; exact hq.symm)); all_goals (intro e; first | cases e | (simp only [Bool.not_eq_true', Bool.not_eq_false'] at e; subst e) | skip)))
  (with_reducible apply RUN_retD)
  (focus (intro q hq; simp only [aret, arets, St.get, lk, cond] at hq; exact hq.symm))
  (focus (intro q hq; simp only [AV.toD, AV.toD.toDL] at hq; exact hq.symm))
  (focus (intro q hq; simp only [keepL, memb, cond] at hq; exact hq.symm))
  (try refine ⟨?_, rfl⟩)
  (try with_reducible rfl)
theorem cpheld_con (h : Hd) (hf : h.flags.length < 4294967296) (hb : h.body.length < 4294967296) : Pu Try.prog 20 [h.D] h.D := by
  refine cpheld_o (by simp) ?_
  simp only [numb, List.map_cons, List.map_nil, Nat.zero_add, Hd.D]
  have hc : (h.flags.length * 16 ≤ 140737488355328) = True := eq_true (by omega)
  have hc2 : (h.body.length ≤ 140737488355328) = True := eq_true (by omega)
  repeat' (first
    | with_reducible refine WC_seq ?_
    | with_reducible refine WC_region ?_
    | with_reducible refine WC_skip ?_
    | with_reducible refine WC_ret ?_
    | with_reducible refine WC_exit ?_
    | with_reducible refine WC_block ?_
    | with_reducible refine thenQ_n ?_
    | with_reducible refine thenQ_r ?_
    | with_reducible refine thenQ_e ?_
    | with_reducible refine blockQ_n ?_
    | with_reducible refine blockQ_r ?_
    | with_reducible refine blockQ_e ?_
    | with_reducible refine blockQ_o rfl ?_
    | with_reducible refine WRs_nil ?_
    | ((with_reducible apply RUN_bool); (focus (intro q hq; simp only [go_sem, Nat.reduceAdd, Nat.reduceSub, Nat.reduceMul, strs_all, strs_all2, strs_len, hc, hc2, List.length_nil, Nat.zero_add, u8_all, List.length_map, Nat.mul_one] at hq; exact hq.symm)); (focus (intro b q hq; simp only [St.setv, lset, cond, ltb] at hq; exact hq.symm)); intro bb hb; (first | (with_reducible have h9 : true = bb := hb; clear hb; subst h9) | (with_reducible have h9 : false = bb := hb; clear hb; subst h9) | skip))
    | ((with_reducible apply WRs_nil2); (focus (intro q hq; simp only [nilS, isSl, isConstNil, St.ev, St.get, lk, cond, Bool.and_true, Bool.and_self, tk_22, tk_23, tk_26, tk_27, tk_3, tk_30, tk_4, tk_46, tk_47, tk_9] at hq; exact hq.symm)); (focus (intro b q hq; simp only [St.setv, lset, cond, ltb] at hq; exact hq.symm)); intro bb hb; (first | (with_reducible have h9 : true = bb := hb; clear hb; subst h9) | (with_reducible have h9 : false = bb := hb; clear hb; subst h9) | skip))
    | ((with_reducible apply RUN_n); (focus (intro q hq; simp only [go_sem, Nat.reduceAdd, Nat.reduceSub, Nat.reduceMul, strs_all, strs_all2, strs_len, hc, hc2, List.length_nil, Nat.zero_add, u8_all, List.length_map, Nat.mul_one] at hq; exact hq.symm)))
    | ((with_reducible apply RUN_gt); (focus (intro q hq; simp only [St.get, lk, cond] at hq; exact hq.symm)))
    | ((with_reducible apply RUN_gf); (focus (intro q hq; simp only [St.get, lk, cond] at hq; exact hq.symm)); (focus (intro q hq; simp only [St.setv, lset, cond, ltb] at hq; exact hq.symm)))
    | ((with_reducible apply RUN_gu); (focus (intro q hq; simp only [St.get, lk, cond] at hq; exact hq.symm)); (focus (intro q hq; simp only [St.setv, lset, cond, ltb] at hq; exact hq.symm)))
    | ((with_reducible apply RUN_gv); (focus (intro q hq; simp only [St.get, lk, cond] at hq; exact hq.symm)); (focus (intro q hq; simp only [St.setv, lset, cond, ltb] at hq; exact hq.symm)); intro e; (first | subst e | (simp only [Bool.not_eq_true', Bool.not_eq_false'] at e; subst e)); rotate_left; intro e; simp only [Bool.not_true, Bool.not_false, Bool.not_eq_true', Bool.not_eq_false'] at e; subst e)
    | ((with_reducible apply RUN_ct); (focus (intro q hq; simp only [St.ev, St.get, lk, cond, ofConst] at hq; exact hq.symm)))
    | ((with_reducible apply RUN_cf); (focus (intro q hq; simp only [St.ev, St.get, lk, cond, ofConst] at hq; exact hq.symm)))
    | ((with_reducible apply RUN_phi); (focus (intro q hq; simp only [St.ev, St.get, lk, cond, ofConst] at hq; exact hq.symm)); (focus (intro q hq; simp only [runP, go_sem, Nat.reduceAdd, Nat.reduceSub, Nat.reduceMul, strs_all, strs_all2, strs_len, hc, hc2, List.length_nil, Nat.zero_add, u8_all, List.length_map, Nat.mul_one] at hq; exact hq.symm)); (focus (intro q hq; simp only [phiS, phiAV, phiD, dstsOf, app, lset, St.get, lk, cond, decide_true, if_true] at hq; exact hq.symm)))
    | ((with_reducible apply RUN_phi2); (focus (intro q hq; simp only [St.ev, St.get, lk, cond, ofConst] at hq; exact hq.symm)); (focus (intro q hq; simp only [runP, go_sem, Nat.reduceAdd, Nat.reduceSub, Nat.reduceMul, strs_all, strs_all2, strs_len, hc, hc2, List.length_nil, Nat.zero_add, u8_all, List.length_map, Nat.mul_one] at hq; exact hq.symm)); (focus (intro q hq; simp only [runP, go_sem, Nat.reduceAdd, Nat.reduceSub, Nat.reduceMul, strs_all, strs_all2, strs_len, hc, hc2, List.length_nil, Nat.zero_add, u8_all, List.length_map, Nat.mul_one] at hq; exact hq.symm)); (focus (intro q hq; simp only [phiS, phiAV, phiD, dstsOf, app, lset, St.get, lk, cond, decide_true, if_true] at hq; exact hq.symm)))
    | ((with_reducible apply RUN_cv); (focus (intro q hq; simp only [St.ev, St.get, lk, cond, ofConst] at hq; exact hq.symm)); all_goals (intro e; first | cases e | (simp only [Bool.not_eq_true', Bool.not_eq_false'] at e; subst e) | skip)))
  (with_reducible apply RUN_retD)
  (focus (intro q hq; simp only [aret, arets, St.get, lk, cond] at hq; exact hq.symm))
  (focus (intro q hq; simp only [AV.toD, AV.toD.toDL] at hq; exact hq.symm))
  (focus (intro q hq; simp only [keepL, memb, cond] at hq; exact hq.symm))
  (try refine ⟨?_, rfl⟩)
  (try with_reducible rfl)
theorem sheld_con (h : Hd) (hf : h.flags.length < 4294967296) (hb : h.body.length < 4294967296) : Pu Try.prog 28 [h.D, h.D] (.bool true) := by
  refine sheld_o (by simp) ?_
  simp only [numb, List.map_cons, List.map_nil, Nat.zero_add, Hd.D]
  repeat' (first
    | with_reducible refine WC_seq ?_
    | with_reducible refine WC_region ?_
    | with_reducible refine WC_skip ?_
    | with_reducible refine WC_ret ?_
    | with_reducible refine WC_exit ?_
    | with_reducible refine WC_block ?_
    | with_reducible refine thenQ_n ?_
    | with_reducible refine thenQ_r ?_
    | with_reducible refine thenQ_e ?_
    | with_reducible refine blockQ_n ?_
    | with_reducible refine blockQ_r ?_
    | with_reducible refine blockQ_e ?_
    | with_reducible refine blockQ_o rfl ?_
    | with_reducible refine WRs_nil ?_
    | ((with_reducible apply RUN_bool); (focus (intro q hq; simp only [go_sem, Nat.reduceAdd, Nat.reduceSub, Nat.reduceMul, beq_self_eq_true] at hq; exact hq.symm)); (focus (intro b q hq; simp only [St.setv, lset, cond, ltb] at hq; exact hq.symm)); intro bb hb; (first | (with_reducible have h9 : true = bb := hb; clear hb; subst h9) | (with_reducible have h9 : false = bb := hb; clear hb; subst h9) | skip))
    | ((with_reducible apply WRs_nil2); (focus (intro q hq; simp only [nilS, isSl, isConstNil, St.ev, St.get, lk, cond, Bool.and_true, Bool.and_self, tk_22, tk_23, tk_26, tk_27, tk_3, tk_30, tk_4, tk_46, tk_47, tk_9] at hq; exact hq.symm)); (focus (intro b q hq; simp only [St.setv, lset, cond, ltb] at hq; exact hq.symm)); intro bb hb; (first | (with_reducible have h9 : true = bb := hb; clear hb; subst h9) | (with_reducible have h9 : false = bb := hb; clear hb; subst h9) | skip))
    | ((with_reducible apply RUN_n); (focus (intro q hq; simp only [go_sem, Nat.reduceAdd, Nat.reduceSub, Nat.reduceMul, beq_self_eq_true] at hq; exact hq.symm)))
    | ((with_reducible apply RUN_gt); (focus (intro q hq; simp only [St.get, lk, cond] at hq; exact hq.symm)))
    | ((with_reducible apply RUN_gf); (focus (intro q hq; simp only [St.get, lk, cond] at hq; exact hq.symm)); (focus (intro q hq; simp only [St.setv, lset, cond, ltb] at hq; exact hq.symm)))
    | ((with_reducible apply RUN_gu); (focus (intro q hq; simp only [St.get, lk, cond] at hq; exact hq.symm)); (focus (intro q hq; simp only [St.setv, lset, cond, ltb] at hq; exact hq.symm)))
    | ((with_reducible apply RUN_gv); (focus (intro q hq; simp only [St.get, lk, cond] at hq; exact hq.symm)); (focus (intro q hq; simp only [St.setv, lset, cond, ltb] at hq; exact hq.symm)); intro e; (first | subst e | (simp only [Bool.not_eq_true', Bool.not_eq_false'] at e; subst e)); rotate_left; intro e; simp only [Bool.not_true, Bool.not_false, Bool.not_eq_true', Bool.not_eq_false'] at e; subst e)
    | ((with_reducible apply RUN_ct); (focus (intro q hq; simp only [St.ev, St.get, lk, cond, ofConst] at hq; exact hq.symm)))
    | ((with_reducible apply RUN_cf); (focus (intro q hq; simp only [St.ev, St.get, lk, cond, ofConst] at hq; exact hq.symm)))
    | ((with_reducible apply RUN_phi); (focus (intro q hq; simp only [St.ev, St.get, lk, cond, ofConst] at hq; exact hq.symm)); (focus (intro q hq; simp only [runP, go_sem, Nat.reduceAdd, Nat.reduceSub, Nat.reduceMul, beq_self_eq_true] at hq; exact hq.symm)); (focus (intro q hq; simp only [phiS, phiAV, phiD, dstsOf, app, lset, St.get, lk, cond, decide_true, if_true] at hq; exact hq.symm)))
    | ((with_reducible apply RUN_phi2); (focus (intro q hq; simp only [St.ev, St.get, lk, cond, ofConst] at hq; exact hq.symm)); (focus (intro q hq; simp only [runP, go_sem, Nat.reduceAdd, Nat.reduceSub, Nat.reduceMul, beq_self_eq_true] at hq; exact hq.symm)); (focus (intro q hq; simp only [runP, go_sem, Nat.reduceAdd, Nat.reduceSub, Nat.reduceMul, beq_self_eq_true] at hq; exact hq.symm)); (focus (intro q hq; simp only [phiS, phiAV, phiD, dstsOf, app, lset, St.get, lk, cond, decide_true, if_true] at hq; exact hq.symm)))
    | ((with_reducible apply RUN_pcallB); (focus (intro q hq; simp only [St.ev, St.get, lk, cond] at hq; exact hq.symm)); (focus (intro q hq; simp only [toDs, List.map, List.append, Array.toList, St.ev, St.get, lk, cond, ofConst, AV.toD, AV.toD.toDL, HAppend.hAppend, Append.append] at hq; exact hq.symm)); (focus (exact plainS_con h.flags hf)); (focus (intro b q hq; simp only [St.setv, lset, cond, ltb] at hq; exact hq.symm)); intro bb hb; (first | (with_reducible have h9 : true = bb := hb; clear hb; subst h9) | (with_reducible have h9 : false = bb := hb; clear hb; subst h9) | skip))
    | ((with_reducible apply RUN_pcall); (focus (intro q hq; simp only [St.ev, St.get, lk, cond] at hq; exact hq.symm)); (focus (intro q hq; simp only [toDs, List.map, List.append, Array.toList, St.ev, St.get, lk, cond, ofConst, AV.toD, AV.toD.toDL, HAppend.hAppend, Append.append] at hq; exact hq.symm)); (focus (exact plainS_con h.flags hf)); (focus (intro q hq; simp only [St.setv, lset, cond, ltb] at hq; exact hq.symm)))
    | ((with_reducible apply RUN_pcallB); (focus (intro q hq; simp only [St.ev, St.get, lk, cond] at hq; exact hq.symm)); (focus (intro q hq; simp only [toDs, List.map, List.append, Array.toList, St.ev, St.get, lk, cond, ofConst, AV.toD, AV.toD.toDL, HAppend.hAppend, Append.append] at hq; exact hq.symm)); (focus (exact sbytes_con h.body hb)); (focus (intro b q hq; simp only [St.setv, lset, cond, ltb] at hq; exact hq.symm)); intro bb hb; (first | (with_reducible have h9 : true = bb := hb; clear hb; subst h9) | (with_reducible have h9 : false = bb := hb; clear hb; subst h9) | skip))
    | ((with_reducible apply RUN_pcall); (focus (intro q hq; simp only [St.ev, St.get, lk, cond] at hq; exact hq.symm)); (focus (intro q hq; simp only [toDs, List.map, List.append, Array.toList, St.ev, St.get, lk, cond, ofConst, AV.toD, AV.toD.toDL, HAppend.hAppend, Append.append] at hq; exact hq.symm)); (focus (exact sbytes_con h.body hb)); (focus (intro q hq; simp only [St.setv, lset, cond, ltb] at hq; exact hq.symm)))
    | ((with_reducible apply RUN_cv); (focus (intro q hq; simp only [St.ev, St.get, lk, cond, ofConst] at hq; exact hq.symm)); all_goals (intro e; first | cases e | (simp only [Bool.not_eq_true', Bool.not_eq_false'] at e; subst e) | skip)))
  (with_reducible apply RUN_ret)
  (focus (intro q hq; simp only [aret, arets, St.get, lk, cond] at hq; exact hq.symm))
  (focus (intro q hq; simp only [keepL, memb, cond] at hq; exact hq.symm))
  (try refine ⟨?_, rfl⟩)
  (try with_reducible rfl)
end Go.Proofs.Ythmiekppdhmbiaa
