import Derived.Test.YthmiekppdhmbiaaC24T3
set_option linter.unusedVariables false
set_option linter.unusedSimpArgs false
namespace Go.Proofs.Ythmiekppdhmbiaa
open Go.Wl
attribute [local irreducible] WRs WDs WC
attribute [local go_sem] Value.cells List.toList_toArray aappend apSrc abuildS abuildS.go List.all_cons List.all_nil St.untag AV.untag AV.untag.untagL Ob.untag tmMap hpMap aopS aop ob St.setv St.ev St.get lk lset cond ltb ofConst ofConst.ofConst0 ank apick afield aload AV.part AV.aggOf afieldV astore AV.cells? AV.one D.one splice aext aun alen AV.list aconv acv abuiltin AV.toD AV.toD.toDL List.map Option.map abin aint ashift astr isConstNil nilOf aindex2 aindexV2 aslice2 asliceL2 ibnd2 aminmax List.take List.drop List.append Nat.zero_add Nat.add_zero List.nil_append List.cons_append List.length_cons List.length_nil List.getElem?_cons_zero List.getElem?_cons_succ List.all_cons List.all_nil Bool.and_true Bool.true_and if_true Bool.not_true Bool.not_false Bool.false_or Bool.or_false St.nmOf freshC freshN anewN abox aalloc anew tmHas hpHas ldel Ob.has AV.has AV.has.hasL unbytes_u8 wd_int cl_int wd_bool cl_bool wd_str cl_str wd_nilp cl_nilp wd_nilfunc cl_nilfunc wd_nilif cl_nilif wd_list cl_list wd_cptr cl_cptr wd_iface cl_iface wd_func cl_func wd_agg cl_agg Int.toNat_natCast Int.natCast_nonneg true_and and_true decide_true decide_false Bool.cond_self Bool.false_eq_true if_false aopD aval acvP abval ag_22 ag_23 ag_25 ag_26 ag_27 ag_29 ag_3 ag_4 ag_43 ag_46 ag_47 ag_49 ag_9 apd_23 apd_26 apd_27 apd_46 apd_47 arr_23 arr_26 arr_27 arr_30 arr_46 arr_47 cvB_3_22 cvB_47_9 cvK_3_22 cvK_47_9 el_23 el_26 el_27 el_30 el_46 el_47 fd_25_0 fd_25_1 fd_25_2 fd_25_3 fd_25_4 fd_25_5 fd_29_0 fd_29_1 fd_29_2 fd_29_3 fd_29_4 fd_43_0 fd_43_1 fd_49_0 fd_49_1 fd_49_2 fd_49_3 fd_49_4 fd_49_5 fd_49_6 fd_49_7 fd_49_8 fp_25 fp_29 fp_43 fp_49 isStr_23 isStr_26 isStr_27 isStr_30 isStr_46 isStr_47 tk_22 tk_23 tk_26 tk_27 tk_3 tk_30 tk_4 tk_46 tk_47 tk_9 zv_22 zv_25 zv_29 zv_43 zv_46 zv_49 zv_5 zv_9
theorem lastD {l : List Nat} (h : 0 < l.length) : l[l.length - 1]? = some (l.getLastD 0) := by
  rw [← List.getLast?_eq_getElem?, List.getLastD_eq_getLast?]
  cases hl : l.getLast? with
  | none => rw [List.getLast?_eq_none_iff] at hl; subst hl; simp at h
  | some x => rfl
theorem rpick_con (r : List (Nat × Nat)) (l : List Nat) (hr : r.length < 4294967296) (hl : l.length < 4294967296) : Pu Try.prog 34 [.list (r.map rg), .list (ns l)] (.list (ns (l.filter fun n => hasF r n (l.getLastD 0)))) := by
  have loop : WC Try.prog [] rpick_9 { n := 38, tm := [(0, .d (.list (r.map rg))), (1, .d (.list (ns l))), (5, .nils), (6, .d (.int .u32 (l.getLastD 0 : Nat))), (7, .d (.int .i64 0))], hp := [] }
      (fun e s' => e = .exit 0 ∧ ∀ q, s'.keep [5] [1000] = q → q = { n := 38, tm := [(5, .sl 1000 (ns (l.filter fun n => hasF r n (l.getLastD 0))))], hp := [(1000, .tail 1)] }) := by
    (with_reducible apply WC_claim 5 1000 1)
    (focus decide)
    (focus (simp only [St.get, lk, cond]))
    (focus (simp only [freshN, tmHas, hpHas, ldel, Ob.has, AV.has, AV.has.hasL, lk, cond, Bool.not_false, Bool.not_true, Bool.and_true, Bool.true_and, Bool.or_false, Bool.false_or]))
    (focus (intro q hq; simp only [lset, cond] at hq; exact hq.symm))
    refine WC_loopI (α := Nat) [0, 1, 5, 6, 7] [1000] (fun i => i ≤ l.length) (fun i => { n := 38, tm := [(0, .d (.list (r.map rg))), (1, .d (.list (ns l))), (5, .sl 1000 (ns ((l.take i).filter fun n => hasF r n (l.getLastD 0)))), (6, .d (.int .u32 (l.getLastD 0 : Nat))), (7, .d (.int .i64 i))], hp := [(1000, .tail 1)] }) (fun i => l.length - i) rfl 0 (by intro q hq; simp only [St.keep, keepL, memb, cond, Bool.false_eq_true, if_false, if_true] at hq; subst hq; first | rfl | (simp only [if_true, ns, List.take_zero, List.filter_nil, List.map_nil]; done) | (simp only [if_true, ns, List.take_zero, List.filter_nil, List.map_nil]; rfl)) ?_ (fun i hI => ?_)
    · simp
    · skip
      repeat' (first
        | with_reducible refine WC_seq ?_
        | with_reducible refine WC_region ?_
        | with_reducible refine WC_skip ?_
        | with_reducible refine WC_ret ?_
        | with_reducible refine WC_exit ?_
        | with_reducible refine WC_block ?_
        | with_reducible refine thenQ_n ?_
        | with_reducible refine thenQ_r ?_
        | with_reducible refine thenQ_e ?_
        | with_reducible refine blockQ_n ?_
        | with_reducible refine blockQ_r ?_
        | with_reducible refine blockQ_e ?_
        | with_reducible refine blockQ_o rfl ?_
        | with_reducible refine WRs_nil ?_
        | ((with_reducible apply RUN_bool); (focus (intro q hq; simp only [go_sem, Nat.reduceAdd, Nat.reduceSub, Nat.reduceMul, ns_len] at hq; exact hq.symm)); (focus (intro b q hq; simp only [St.setv, lset, cond, ltb] at hq; exact hq.symm)); intro bb hb; (first | (with_reducible have h9 : true = bb := hb; clear hb; subst h9) | (with_reducible have h9 : false = bb := hb; clear hb; subst h9) | skip))
        | ((with_reducible apply WRs_nil2); (focus (intro q hq; simp only [nilS, isSl, isConstNil, St.ev, St.get, lk, cond, Bool.and_true, Bool.and_self, tk_22, tk_23, tk_26, tk_27, tk_3, tk_30, tk_4, tk_46, tk_47, tk_9] at hq; exact hq.symm)); (focus (intro b q hq; simp only [St.setv, lset, cond, ltb] at hq; exact hq.symm)); intro bb hb; (first | (with_reducible have h9 : true = bb := hb; clear hb; subst h9) | (with_reducible have h9 : false = bb := hb; clear hb; subst h9) | skip))
        | ((with_reducible apply RUN_n); (focus (intro q hq; simp only [go_sem, Nat.reduceAdd, Nat.reduceSub, Nat.reduceMul, ns_len] at hq; exact hq.symm)))
        | ((with_reducible apply RUN_gt); (focus (intro q hq; simp only [St.get, lk, cond] at hq; exact hq.symm)))
        | ((with_reducible apply WC_draw mx); (focus (intro q hq; simp only [objNames, List.map_cons, List.map_nil, List.filter_cons, List.filter_nil, isObj, lk, cond, if_true, if_false, Bool.false_eq_true] at hq; exact hq.symm)); (focus rfl))
        | with_reducible refine RUND_nil ?_
        | ((with_reducible apply RUND_bool); (focus (intro q hq; simp only [go_sem, Nat.reduceAdd, Nat.reduceSub, Nat.reduceMul, ns_len] at hq; exact hq.symm)); (focus (intro b q hq; simp only [St.setv, lset, cond, ltb] at hq; exact hq.symm)); intro bb hb; (first | (with_reducible have h9 : true = bb := hb; clear hb; subst h9) | (with_reducible have h9 : false = bb := hb; clear hb; subst h9) | skip))
        | ((with_reducible apply RUND_n); (focus (intro q hq; simp only [go_sem, Nat.reduceAdd, Nat.reduceSub, Nat.reduceMul, ns_len] at hq; exact hq.symm)))
        | ((with_reducible apply RUND_lbool); (focus (intro q hq; simp only [laOK, List.all_cons, List.all_nil, St.get, lk, cond, AV.refs, AV.refs.refsL, memb, List.append_nil, Bool.and_true, Bool.true_and, Bool.and_self] at hq; exact hq.symm)); (focus (intro q hq; simp only [go_sem, Nat.reduceAdd, Nat.reduceSub, Nat.reduceMul, ns_len] at hq; exact hq.symm)); (focus (intro b q hq; simp only [St.setv, lset, cond, ltb] at hq; exact hq.symm)); intro bb hb; (first | (with_reducible have h9 : true = bb := hb; clear hb; subst h9) | (with_reducible have h9 : false = bb := hb; clear hb; subst h9) | skip))
        | ((with_reducible apply RUND_l); (focus (intro q hq; simp only [laOK, List.all_cons, List.all_nil, St.get, lk, cond, AV.refs, AV.refs.refsL, memb, List.append_nil, Bool.and_true, Bool.true_and, Bool.and_self] at hq; exact hq.symm)); (focus (intro q hq; simp only [go_sem, Nat.reduceAdd, Nat.reduceSub, Nat.reduceMul, ns_len] at hq; exact hq.symm)))
        | ((with_reducible apply RUND_lm); (focus (intro q hq; simp only [laOK, List.all_cons, List.all_nil, St.get, lk, cond, AV.refs, AV.refs.refsL, memb, List.append_nil, Bool.and_true, Bool.true_and, Bool.and_self] at hq; exact hq.symm)); (focus (intro q hq; simp only [go_sem, Nat.reduceAdd, Nat.reduceSub, Nat.reduceMul, ns_len] at hq; exact hq.symm)))
        | ((with_reducible apply RUND_gt); (focus (intro q hq; simp only [St.get, lk, cond] at hq; exact hq.symm)))
        | ((with_reducible apply RUND_gf); (focus (intro q hq; simp only [sameOn, laOK, List.all_cons, List.all_nil, St.get, lk, lset, cond, AV.refs, AV.refs.refsL, memb, List.append_nil, Bool.and_true, Bool.true_and, Bool.and_self, and_self, and_true, skipOK, eq_self, forall_const, implies_true, false_implies, Bool.false_and, Bool.and_false, Bool.false_eq_true] at hq; subst hq; trivial)); (focus (intro q hq; simp only [St.get, lk, cond] at hq; exact hq.symm)); (focus (intro q hq; simp only [St.setv, lset, cond, ltb] at hq; exact hq.symm)))
        | ((with_reducible apply RUND_gu); (focus (intro q hq; simp only [sameOn, laOK, List.all_cons, List.all_nil, St.get, lk, lset, cond, AV.refs, AV.refs.refsL, memb, List.append_nil, Bool.and_true, Bool.true_and, Bool.and_self, and_self, and_true, skipOK, eq_self, forall_const, implies_true, false_implies, Bool.false_and, Bool.and_false, Bool.false_eq_true] at hq; subst hq; trivial)); (focus (intro q hq; simp only [St.get, lk, cond] at hq; exact hq.symm)); (focus (intro q hq; simp only [St.setv, lset, cond, ltb] at hq; exact hq.symm)))
        | ((with_reducible apply RUND_gv); rotate_left; (focus (intro q hq; simp only [St.get, lk, cond] at hq; exact hq.symm)); (focus (intro q hq; simp only [St.setv, lset, cond, ltb] at hq; exact hq.symm)); rotate_left; rotate_left; (focus (intro q hq; simp only [sameOn, laOK, List.all_cons, List.all_nil, St.get, lk, lset, cond, AV.refs, AV.refs.refsL, memb, List.append_nil, Bool.and_true, Bool.true_and, Bool.and_self, and_self, and_true, skipOK, eq_self, forall_const, implies_true, false_implies, Bool.false_and, Bool.and_false, Bool.false_eq_true] at hq; subst hq; trivial)); intro e; (first | subst e | (simp only [Bool.not_eq_true', Bool.not_eq_false'] at e; subst e)); rotate_left; intro e; simp only [Bool.not_true, Bool.not_false, Bool.not_eq_true', Bool.not_eq_false'] at e; subst e)
        | ((with_reducible apply RUND_ch); (focus (intro q hq; simp only [go_sem, Nat.reduceAdd, Nat.reduceSub, Nat.reduceMul, ns_len] at hq; exact hq.symm)); (focus (intro q hq; simp only [sameOn, laOK, List.all_cons, List.all_nil, St.get, lk, lset, cond, AV.refs, AV.refs.refsL, memb, List.append_nil, Bool.and_true, Bool.true_and, Bool.and_self, and_self, and_true] at hq; subst hq; trivial)); (focus (intro e; first | (cases e; done) | rfl)))
        | ((with_reducible apply RUN_gf); (focus (intro q hq; simp only [St.get, lk, cond] at hq; exact hq.symm)); (focus (intro q hq; simp only [St.setv, lset, cond, ltb] at hq; exact hq.symm)))
        | ((with_reducible apply RUN_gu); (focus (intro q hq; simp only [St.get, lk, cond] at hq; exact hq.symm)); (focus (intro q hq; simp only [St.setv, lset, cond, ltb] at hq; exact hq.symm)))
        | ((with_reducible apply RUN_gv); (focus (intro q hq; simp only [St.get, lk, cond] at hq; exact hq.symm)); (focus (intro q hq; simp only [St.setv, lset, cond, ltb] at hq; exact hq.symm)); intro e; (first | subst e | (simp only [Bool.not_eq_true', Bool.not_eq_false'] at e; subst e)); rotate_left; intro e; simp only [Bool.not_true, Bool.not_false, Bool.not_eq_true', Bool.not_eq_false'] at e; subst e)
        | ((with_reducible apply RUN_ct); (focus (intro q hq; simp only [St.ev, St.get, lk, cond, ofConst] at hq; exact hq.symm)))
        | ((with_reducible apply RUN_cf); (focus (intro q hq; simp only [St.ev, St.get, lk, cond, ofConst] at hq; exact hq.symm)))
        | ((with_reducible apply RUN_phi); (focus (intro q hq; simp only [St.ev, St.get, lk, cond, ofConst] at hq; exact hq.symm)); (focus (intro q hq; simp only [runP, go_sem, Nat.reduceAdd, Nat.reduceSub, Nat.reduceMul, ns_len] at hq; exact hq.symm)); (focus (intro q hq; simp only [phiS, phiAV, phiD, dstsOf, app, lset, St.get, lk, cond, decide_true, if_true] at hq; exact hq.symm)))
        | ((with_reducible apply RUN_phi2); (focus (intro q hq; simp only [St.ev, St.get, lk, cond, ofConst] at hq; exact hq.symm)); (focus (intro q hq; simp only [runP, go_sem, Nat.reduceAdd, Nat.reduceSub, Nat.reduceMul, ns_len] at hq; exact hq.symm)); (focus (intro q hq; simp only [runP, go_sem, Nat.reduceAdd, Nat.reduceSub, Nat.reduceMul, ns_len] at hq; exact hq.symm)); (focus (intro q hq; simp only [phiS, phiAV, phiD, dstsOf, app, lset, St.get, lk, cond, decide_true, if_true] at hq; exact hq.symm)))
        | ((with_reducible apply RUN_cv); (focus (intro q hq; simp only [St.ev, St.get, lk, cond, ofConst] at hq; exact hq.symm)); all_goals (intro e; first | cases e | (simp only [Bool.not_eq_true', Bool.not_eq_false'] at e; subst e) | skip)))
      · have hi : i < l.length := by simpa using hb
        obtain ⟨p, hp⟩ : ∃ p, l[i]? = some p := ⟨_, List.getElem?_eq_getElem hi⟩
        have hw := w64_one (i := i) (by omega)
        repeat' (first
          | with_reducible refine WC_seq ?_
          | with_reducible refine WC_region ?_
          | with_reducible refine WC_skip ?_
          | with_reducible refine WC_ret ?_
          | with_reducible refine WC_exit ?_
          | with_reducible refine WC_block ?_
          | with_reducible refine thenQ_n ?_
          | with_reducible refine thenQ_r ?_
          | with_reducible refine thenQ_e ?_
          | with_reducible refine blockQ_n ?_
          | with_reducible refine blockQ_r ?_
          | with_reducible refine blockQ_e ?_
          | with_reducible refine blockQ_o rfl ?_
          | with_reducible refine WRs_nil ?_
          | ((with_reducible apply RUN_bool); (focus (intro q hq; simp only [go_sem, Nat.reduceAdd, Nat.reduceSub, Nat.reduceMul, ns_len, ns_get, hp, Option.map_some] at hq; exact hq.symm)); (focus (intro b q hq; simp only [St.setv, lset, cond, ltb] at hq; exact hq.symm)); intro bb hb; (first | (with_reducible have h9 : true = bb := hb; clear hb; subst h9) | (with_reducible have h9 : false = bb := hb; clear hb; subst h9) | skip))
          | ((with_reducible apply WRs_nil2); (focus (intro q hq; simp only [nilS, isSl, isConstNil, St.ev, St.get, lk, cond, Bool.and_true, Bool.and_self, tk_22, tk_23, tk_26, tk_27, tk_3, tk_30, tk_4, tk_46, tk_47, tk_9] at hq; exact hq.symm)); (focus (intro b q hq; simp only [St.setv, lset, cond, ltb] at hq; exact hq.symm)); intro bb hb; (first | (with_reducible have h9 : true = bb := hb; clear hb; subst h9) | (with_reducible have h9 : false = bb := hb; clear hb; subst h9) | skip))
          | ((with_reducible apply RUN_n); (focus (intro q hq; simp only [go_sem, Nat.reduceAdd, Nat.reduceSub, Nat.reduceMul, ns_len, ns_get, hp, Option.map_some] at hq; exact hq.symm)))
          | ((with_reducible apply RUN_gt); (focus (intro q hq; simp only [St.get, lk, cond] at hq; exact hq.symm)))
          | ((with_reducible apply WC_draw mx); (focus (intro q hq; simp only [objNames, List.map_cons, List.map_nil, List.filter_cons, List.filter_nil, isObj, lk, cond, if_true, if_false, Bool.false_eq_true] at hq; exact hq.symm)); (focus rfl))
          | with_reducible refine RUND_nil ?_
          | ((with_reducible apply RUND_bool); (focus (intro q hq; simp only [go_sem, Nat.reduceAdd, Nat.reduceSub, Nat.reduceMul, ns_len, ns_get, hp, Option.map_some] at hq; exact hq.symm)); (focus (intro b q hq; simp only [St.setv, lset, cond, ltb] at hq; exact hq.symm)); intro bb hb; (first | (with_reducible have h9 : true = bb := hb; clear hb; subst h9) | (with_reducible have h9 : false = bb := hb; clear hb; subst h9) | skip))
          | ((with_reducible apply RUND_n); (focus (intro q hq; simp only [go_sem, Nat.reduceAdd, Nat.reduceSub, Nat.reduceMul, ns_len, ns_get, hp, Option.map_some] at hq; exact hq.symm)))
          | ((with_reducible apply RUND_lbool); (focus (intro q hq; simp only [laOK, List.all_cons, List.all_nil, St.get, lk, cond, AV.refs, AV.refs.refsL, memb, List.append_nil, Bool.and_true, Bool.true_and, Bool.and_self] at hq; exact hq.symm)); (focus (intro q hq; simp only [go_sem, Nat.reduceAdd, Nat.reduceSub, Nat.reduceMul, ns_len, ns_get, hp, Option.map_some] at hq; exact hq.symm)); (focus (intro b q hq; simp only [St.setv, lset, cond, ltb] at hq; exact hq.symm)); intro bb hb; (first | (with_reducible have h9 : true = bb := hb; clear hb; subst h9) | (with_reducible have h9 : false = bb := hb; clear hb; subst h9) | skip))
          | ((with_reducible apply RUND_l); (focus (intro q hq; simp only [laOK, List.all_cons, List.all_nil, St.get, lk, cond, AV.refs, AV.refs.refsL, memb, List.append_nil, Bool.and_true, Bool.true_and, Bool.and_self] at hq; exact hq.symm)); (focus (intro q hq; simp only [go_sem, Nat.reduceAdd, Nat.reduceSub, Nat.reduceMul, ns_len, ns_get, hp, Option.map_some] at hq; exact hq.symm)))
          | ((with_reducible apply RUND_lm); (focus (intro q hq; simp only [laOK, List.all_cons, List.all_nil, St.get, lk, cond, AV.refs, AV.refs.refsL, memb, List.append_nil, Bool.and_true, Bool.true_and, Bool.and_self] at hq; exact hq.symm)); (focus (intro q hq; simp only [go_sem, Nat.reduceAdd, Nat.reduceSub, Nat.reduceMul, ns_len, ns_get, hp, Option.map_some] at hq; exact hq.symm)))
          | ((with_reducible apply RUND_gt); (focus (intro q hq; simp only [St.get, lk, cond] at hq; exact hq.symm)))
          | ((with_reducible apply RUND_gf); (focus (intro q hq; simp only [sameOn, laOK, List.all_cons, List.all_nil, St.get, lk, lset, cond, AV.refs, AV.refs.refsL, memb, List.append_nil, Bool.and_true, Bool.true_and, Bool.and_self, and_self, and_true, skipOK, eq_self, forall_const, implies_true, false_implies, Bool.false_and, Bool.and_false, Bool.false_eq_true] at hq; subst hq; trivial)); (focus (intro q hq; simp only [St.get, lk, cond] at hq; exact hq.symm)); (focus (intro q hq; simp only [St.setv, lset, cond, ltb] at hq; exact hq.symm)))
          | ((with_reducible apply RUND_gu); (focus (intro q hq; simp only [sameOn, laOK, List.all_cons, List.all_nil, St.get, lk, lset, cond, AV.refs, AV.refs.refsL, memb, List.append_nil, Bool.and_true, Bool.true_and, Bool.and_self, and_self, and_true, skipOK, eq_self, forall_const, implies_true, false_implies, Bool.false_and, Bool.and_false, Bool.false_eq_true] at hq; subst hq; trivial)); (focus (intro q hq; simp only [St.get, lk, cond] at hq; exact hq.symm)); (focus (intro q hq; simp only [St.setv, lset, cond, ltb] at hq; exact hq.symm)))
          | ((with_reducible apply RUND_gv); rotate_left; (focus (intro q hq; simp only [St.get, lk, cond] at hq; exact hq.symm)); (focus (intro q hq; simp only [St.setv, lset, cond, ltb] at hq; exact hq.symm)); rotate_left; rotate_left; (focus (intro q hq; simp only [sameOn, laOK, List.all_cons, List.all_nil, St.get, lk, lset, cond, AV.refs, AV.refs.refsL, memb, List.append_nil, Bool.and_true, Bool.true_and, Bool.and_self, and_self, and_true, skipOK, eq_self, forall_const, implies_true, false_implies, Bool.false_and, Bool.and_false, Bool.false_eq_true] at hq; subst hq; trivial)); intro e; (first | subst e | (simp only [Bool.not_eq_true', Bool.not_eq_false'] at e; subst e)); rotate_left; intro e; simp only [Bool.not_true, Bool.not_false, Bool.not_eq_true', Bool.not_eq_false'] at e; subst e)
          | ((with_reducible apply RUND_ch); (focus (intro q hq; simp only [go_sem, Nat.reduceAdd, Nat.reduceSub, Nat.reduceMul, ns_len, ns_get, hp, Option.map_some] at hq; exact hq.symm)); (focus (intro q hq; simp only [sameOn, laOK, List.all_cons, List.all_nil, St.get, lk, lset, cond, AV.refs, AV.refs.refsL, memb, List.append_nil, Bool.and_true, Bool.true_and, Bool.and_self, and_self, and_true] at hq; subst hq; trivial)); (focus (intro e; first | (cases e; done) | rfl)))
          | ((with_reducible apply RUN_gf); (focus (intro q hq; simp only [St.get, lk, cond] at hq; exact hq.symm)); (focus (intro q hq; simp only [St.setv, lset, cond, ltb] at hq; exact hq.symm)))
          | ((with_reducible apply RUN_gu); (focus (intro q hq; simp only [St.get, lk, cond] at hq; exact hq.symm)); (focus (intro q hq; simp only [St.setv, lset, cond, ltb] at hq; exact hq.symm)))
          | ((with_reducible apply RUN_gv); (focus (intro q hq; simp only [St.get, lk, cond] at hq; exact hq.symm)); (focus (intro q hq; simp only [St.setv, lset, cond, ltb] at hq; exact hq.symm)); intro e; (first | subst e | (simp only [Bool.not_eq_true', Bool.not_eq_false'] at e; subst e)); rotate_left; intro e; simp only [Bool.not_true, Bool.not_false, Bool.not_eq_true', Bool.not_eq_false'] at e; subst e)
          | ((with_reducible apply RUN_ct); (focus (intro q hq; simp only [St.ev, St.get, lk, cond, ofConst] at hq; exact hq.symm)))
          | ((with_reducible apply RUN_cf); (focus (intro q hq; simp only [St.ev, St.get, lk, cond, ofConst] at hq; exact hq.symm)))
          | ((with_reducible apply RUN_phi); (focus (intro q hq; simp only [St.ev, St.get, lk, cond, ofConst] at hq; exact hq.symm)); (focus (intro q hq; simp only [runP, go_sem, Nat.reduceAdd, Nat.reduceSub, Nat.reduceMul, ns_len, ns_get, hp, Option.map_some] at hq; exact hq.symm)); (focus (intro q hq; simp only [phiS, phiAV, phiD, dstsOf, app, lset, St.get, lk, cond, decide_true, if_true] at hq; exact hq.symm)))
          | ((with_reducible apply RUN_phi2); (focus (intro q hq; simp only [St.ev, St.get, lk, cond, ofConst] at hq; exact hq.symm)); (focus (intro q hq; simp only [runP, go_sem, Nat.reduceAdd, Nat.reduceSub, Nat.reduceMul, ns_len, ns_get, hp, Option.map_some] at hq; exact hq.symm)); (focus (intro q hq; simp only [runP, go_sem, Nat.reduceAdd, Nat.reduceSub, Nat.reduceMul, ns_len, ns_get, hp, Option.map_some] at hq; exact hq.symm)); (focus (intro q hq; simp only [phiS, phiAV, phiD, dstsOf, app, lset, St.get, lk, cond, decide_true, if_true] at hq; exact hq.symm)))
          | ((with_reducible apply RUN_pcallB); (focus (intro q hq; simp only [St.ev, St.get, lk, cond] at hq; exact hq.symm)); (focus (intro q hq; simp only [toDs, List.map, List.append, Array.toList, St.ev, St.get, lk, cond, ofConst, AV.toD, AV.toD.toDL, HAppend.hAppend, Append.append] at hq; exact hq.symm)); (focus (exact rhas_con r p (l.getLastD 0) hr)); (focus (intro b q hq; simp only [St.setv, lset, cond, ltb] at hq; exact hq.symm)); intro bb hb; (first | (with_reducible have h9 : true = bb := hb; clear hb; subst h9) | (with_reducible have h9 : false = bb := hb; clear hb; subst h9) | skip))
          | ((with_reducible apply RUND_pcallB); (focus (intro q hq; simp only [St.ev, St.get, lk, cond] at hq; exact hq.symm)); (focus (intro q hq; simp only [toDs, List.map, List.append, Array.toList, St.ev, St.get, lk, cond, ofConst, AV.toD, AV.toD.toDL, HAppend.hAppend, Append.append] at hq; exact hq.symm)); (focus (exact rhas_con r p (l.getLastD 0) hr)); (focus (intro b q hq; simp only [St.setv, lset, cond, ltb] at hq; exact hq.symm)); (focus (intro b q hq; simp only [sameOn, laOK, List.all_cons, List.all_nil, St.get, lk, lset, cond, AV.refs, AV.refs.refsL, memb, List.append_nil, Bool.and_true, Bool.true_and, Bool.and_self, and_self, and_true] at hq; subst hq; trivial)); intro bb hb; (first | (with_reducible have h9 : true = bb := hb; clear hb; subst h9) | (with_reducible have h9 : false = bb := hb; clear hb; subst h9) | skip))
          | ((with_reducible apply RUN_pcall); (focus (intro q hq; simp only [St.ev, St.get, lk, cond] at hq; exact hq.symm)); (focus (intro q hq; simp only [toDs, List.map, List.append, Array.toList, St.ev, St.get, lk, cond, ofConst, AV.toD, AV.toD.toDL, HAppend.hAppend, Append.append] at hq; exact hq.symm)); (focus (exact rhas_con r p (l.getLastD 0) hr)); (focus (intro q hq; simp only [St.setv, lset, cond, ltb] at hq; exact hq.symm)))
          | ((with_reducible apply RUND_pcall); (focus (intro q hq; simp only [St.ev, St.get, lk, cond] at hq; exact hq.symm)); (focus (intro q hq; simp only [toDs, List.map, List.append, Array.toList, St.ev, St.get, lk, cond, ofConst, AV.toD, AV.toD.toDL, HAppend.hAppend, Append.append] at hq; exact hq.symm)); (focus (exact rhas_con r p (l.getLastD 0) hr)); (focus (intro q hq; simp only [St.setv, lset, cond, ltb] at hq; exact hq.symm)); (focus (intro q hq; simp only [sameOn, laOK, List.all_cons, List.all_nil, St.get, lk, lset, cond, AV.refs, AV.refs.refsL, memb, List.append_nil, Bool.and_true, Bool.true_and, Bool.and_self, and_self, and_true] at hq; subst hq; trivial)))
          | ((with_reducible apply RUN_cv); (focus (intro q hq; simp only [St.ev, St.get, lk, cond, ofConst] at hq; exact hq.symm)); all_goals (intro e; first | cases e | (simp only [Bool.not_eq_true', Bool.not_eq_false'] at e; subst e) | skip)))
        · have hc : ((l.take i).filter fun n => hasF r n (l.getLastD 0)).length ≤ l.length := Nat.le_trans (List.length_filter_le _ _) (by simp; omega)
          have hc : ((((l.take i).filter fun n => hasF r n (l.getLastD 0)).length + 1) * 4 ≤ 140737488355328) = True := eq_true (by omega)
          repeat' (first
            | with_reducible refine WC_seq ?_
            | with_reducible refine WC_region ?_
            | with_reducible refine WC_skip ?_
            | with_reducible refine WC_ret ?_
            | with_reducible refine WC_exit ?_
            | with_reducible refine WC_block ?_
            | with_reducible refine thenQ_n ?_
            | with_reducible refine thenQ_r ?_
            | with_reducible refine thenQ_e ?_
            | with_reducible refine blockQ_n ?_
            | with_reducible refine blockQ_r ?_
            | with_reducible refine blockQ_e ?_
            | with_reducible refine blockQ_o rfl ?_
            | with_reducible refine WRs_nil ?_
            | ((with_reducible apply RUN_bool); (focus (intro q hq; simp only [go_sem, Nat.reduceAdd, Nat.reduceSub, Nat.reduceMul, ns_len, ns_get, hp, hc, Option.map_some] at hq; exact hq.symm)); (focus (intro b q hq; simp only [St.setv, lset, cond, ltb] at hq; exact hq.symm)); intro bb hb; (first | (with_reducible have h9 : true = bb := hb; clear hb; subst h9) | (with_reducible have h9 : false = bb := hb; clear hb; subst h9) | skip))
            | ((with_reducible apply WRs_nil2); (focus (intro q hq; simp only [nilS, isSl, isConstNil, St.ev, St.get, lk, cond, Bool.and_true, Bool.and_self, tk_22, tk_23, tk_26, tk_27, tk_3, tk_30, tk_4, tk_46, tk_47, tk_9] at hq; exact hq.symm)); (focus (intro b q hq; simp only [St.setv, lset, cond, ltb] at hq; exact hq.symm)); intro bb hb; (first | (with_reducible have h9 : true = bb := hb; clear hb; subst h9) | (with_reducible have h9 : false = bb := hb; clear hb; subst h9) | skip))
            | ((with_reducible apply RUN_n); (focus (intro q hq; simp only [go_sem, Nat.reduceAdd, Nat.reduceSub, Nat.reduceMul, ns_len, ns_get, hp, hc, Option.map_some] at hq; exact hq.symm)))
            | ((with_reducible apply RUN_gt); (focus (intro q hq; simp only [St.get, lk, cond] at hq; exact hq.symm)))
            | ((with_reducible apply WC_draw mx); (focus (intro q hq; simp only [objNames, List.map_cons, List.map_nil, List.filter_cons, List.filter_nil, isObj, lk, cond, if_true, if_false, Bool.false_eq_true] at hq; exact hq.symm)); (focus rfl))
            | with_reducible refine RUND_nil ?_
            | ((with_reducible apply RUND_bool); (focus (intro q hq; simp only [go_sem, Nat.reduceAdd, Nat.reduceSub, Nat.reduceMul, ns_len, ns_get, hp, hc, Option.map_some] at hq; exact hq.symm)); (focus (intro b q hq; simp only [St.setv, lset, cond, ltb] at hq; exact hq.symm)); intro bb hb; (first | (with_reducible have h9 : true = bb := hb; clear hb; subst h9) | (with_reducible have h9 : false = bb := hb; clear hb; subst h9) | skip))
            | ((with_reducible apply RUND_n); (focus (intro q hq; simp only [go_sem, Nat.reduceAdd, Nat.reduceSub, Nat.reduceMul, ns_len, ns_get, hp, hc, Option.map_some] at hq; exact hq.symm)))
            | ((with_reducible apply RUND_lbool); (focus (intro q hq; simp only [laOK, List.all_cons, List.all_nil, St.get, lk, cond, AV.refs, AV.refs.refsL, memb, List.append_nil, Bool.and_true, Bool.true_and, Bool.and_self] at hq; exact hq.symm)); (focus (intro q hq; simp only [go_sem, Nat.reduceAdd, Nat.reduceSub, Nat.reduceMul, ns_len, ns_get, hp, hc, Option.map_some] at hq; exact hq.symm)); (focus (intro b q hq; simp only [St.setv, lset, cond, ltb] at hq; exact hq.symm)); intro bb hb; (first | (with_reducible have h9 : true = bb := hb; clear hb; subst h9) | (with_reducible have h9 : false = bb := hb; clear hb; subst h9) | skip))
            | ((with_reducible apply RUND_l); (focus (intro q hq; simp only [laOK, List.all_cons, List.all_nil, St.get, lk, cond, AV.refs, AV.refs.refsL, memb, List.append_nil, Bool.and_true, Bool.true_and, Bool.and_self] at hq; exact hq.symm)); (focus (intro q hq; simp only [go_sem, Nat.reduceAdd, Nat.reduceSub, Nat.reduceMul, ns_len, ns_get, hp, hc, Option.map_some] at hq; exact hq.symm)))
            | ((with_reducible apply RUND_lm); (focus (intro q hq; simp only [laOK, List.all_cons, List.all_nil, St.get, lk, cond, AV.refs, AV.refs.refsL, memb, List.append_nil, Bool.and_true, Bool.true_and, Bool.and_self] at hq; exact hq.symm)); (focus (intro q hq; simp only [go_sem, Nat.reduceAdd, Nat.reduceSub, Nat.reduceMul, ns_len, ns_get, hp, hc, Option.map_some] at hq; exact hq.symm)))
            | ((with_reducible apply RUND_gt); (focus (intro q hq; simp only [St.get, lk, cond] at hq; exact hq.symm)))
            | ((with_reducible apply RUND_gf); (focus (intro q hq; simp only [sameOn, laOK, List.all_cons, List.all_nil, St.get, lk, lset, cond, AV.refs, AV.refs.refsL, memb, List.append_nil, Bool.and_true, Bool.true_and, Bool.and_self, and_self, and_true, skipOK, eq_self, forall_const, implies_true, false_implies, Bool.false_and, Bool.and_false, Bool.false_eq_true] at hq; subst hq; trivial)); (focus (intro q hq; simp only [St.get, lk, cond] at hq; exact hq.symm)); (focus (intro q hq; simp only [St.setv, lset, cond, ltb] at hq; exact hq.symm)))
            | ((with_reducible apply RUND_gu); (focus (intro q hq; simp only [sameOn, laOK, List.all_cons, List.all_nil, St.get, lk, lset, cond, AV.refs, AV.refs.refsL, memb, List.append_nil, Bool.and_true, Bool.true_and, Bool.and_self, and_self, and_true, skipOK, eq_self, forall_const, implies_true, false_implies, Bool.false_and, Bool.and_false, Bool.false_eq_true] at hq; subst hq; trivial)); (focus (intro q hq; simp only [St.get, lk, cond] at hq; exact hq.symm)); (focus (intro q hq; simp only [St.setv, lset, cond, ltb] at hq; exact hq.symm)))
            | ((with_reducible apply RUND_gv); rotate_left; (focus (intro q hq; simp only [St.get, lk, cond] at hq; exact hq.symm)); (focus (intro q hq; simp only [St.setv, lset, cond, ltb] at hq; exact hq.symm)); rotate_left; rotate_left; (focus (intro q hq; simp only [sameOn, laOK, List.all_cons, List.all_nil, St.get, lk, lset, cond, AV.refs, AV.refs.refsL, memb, List.append_nil, Bool.and_true, Bool.true_and, Bool.and_self, and_self, and_true, skipOK, eq_self, forall_const, implies_true, false_implies, Bool.false_and, Bool.and_false, Bool.false_eq_true] at hq; subst hq; trivial)); intro e; (first | subst e | (simp only [Bool.not_eq_true', Bool.not_eq_false'] at e; subst e)); rotate_left; intro e; simp only [Bool.not_true, Bool.not_false, Bool.not_eq_true', Bool.not_eq_false'] at e; subst e)
            | ((with_reducible apply RUND_ch); (focus (intro q hq; simp only [go_sem, Nat.reduceAdd, Nat.reduceSub, Nat.reduceMul, ns_len, ns_get, hp, hc, Option.map_some] at hq; exact hq.symm)); (focus (intro q hq; simp only [sameOn, laOK, List.all_cons, List.all_nil, St.get, lk, lset, cond, AV.refs, AV.refs.refsL, memb, List.append_nil, Bool.and_true, Bool.true_and, Bool.and_self, and_self, and_true] at hq; subst hq; trivial)); (focus (intro e; first | (cases e; done) | rfl)))
            | ((with_reducible apply RUN_gf); (focus (intro q hq; simp only [St.get, lk, cond] at hq; exact hq.symm)); (focus (intro q hq; simp only [St.setv, lset, cond, ltb] at hq; exact hq.symm)))
            | ((with_reducible apply RUN_gu); (focus (intro q hq; simp only [St.get, lk, cond] at hq; exact hq.symm)); (focus (intro q hq; simp only [St.setv, lset, cond, ltb] at hq; exact hq.symm)))
            | ((with_reducible apply RUN_gv); (focus (intro q hq; simp only [St.get, lk, cond] at hq; exact hq.symm)); (focus (intro q hq; simp only [St.setv, lset, cond, ltb] at hq; exact hq.symm)); intro e; (first | subst e | (simp only [Bool.not_eq_true', Bool.not_eq_false'] at e; subst e)); rotate_left; intro e; simp only [Bool.not_true, Bool.not_false, Bool.not_eq_true', Bool.not_eq_false'] at e; subst e)
            | ((with_reducible apply RUN_ct); (focus (intro q hq; simp only [St.ev, St.get, lk, cond, ofConst] at hq; exact hq.symm)))
            | ((with_reducible apply RUN_cf); (focus (intro q hq; simp only [St.ev, St.get, lk, cond, ofConst] at hq; exact hq.symm)))
            | ((with_reducible apply RUN_phi); (focus (intro q hq; simp only [St.ev, St.get, lk, cond, ofConst] at hq; exact hq.symm)); (focus (intro q hq; simp only [runP, go_sem, Nat.reduceAdd, Nat.reduceSub, Nat.reduceMul, ns_len, ns_get, hp, hc, Option.map_some] at hq; exact hq.symm)); (focus (intro q hq; simp only [phiS, phiAV, phiD, dstsOf, app, lset, St.get, lk, cond, decide_true, if_true] at hq; exact hq.symm)))
            | ((with_reducible apply RUN_phi2); (focus (intro q hq; simp only [St.ev, St.get, lk, cond, ofConst] at hq; exact hq.symm)); (focus (intro q hq; simp only [runP, go_sem, Nat.reduceAdd, Nat.reduceSub, Nat.reduceMul, ns_len, ns_get, hp, hc, Option.map_some] at hq; exact hq.symm)); (focus (intro q hq; simp only [runP, go_sem, Nat.reduceAdd, Nat.reduceSub, Nat.reduceMul, ns_len, ns_get, hp, hc, Option.map_some] at hq; exact hq.symm)); (focus (intro q hq; simp only [phiS, phiAV, phiD, dstsOf, app, lset, St.get, lk, cond, decide_true, if_true] at hq; exact hq.symm)))
            | ((with_reducible apply RUN_cv); (focus (intro q hq; simp only [St.ev, St.get, lk, cond, ofConst] at hq; exact hq.symm)); all_goals (intro e; first | cases e | (simp only [Bool.not_eq_true', Bool.not_eq_false'] at e; subst e) | skip)))
          refine ⟨i + 1, by omega, by omega, ?_⟩
          rw [take_filter hp]
          (intro q hq; simp only [St.keep, keepL, memb, cond, Bool.false_eq_true, if_false] at hq; subst hq; first | rfl | (simp only [hw, ns, List.map_append, hb, cond, List.map_cons, List.map_nil, List.append_nil]; done) | (simp only [hw, ns, List.map_append, hb, cond, List.map_cons, List.map_nil, List.append_nil]; rfl))
        · skip
          repeat' (first
            | with_reducible refine WC_seq ?_
            | with_reducible refine WC_region ?_
            | with_reducible refine WC_skip ?_
            | with_reducible refine WC_ret ?_
            | with_reducible refine WC_exit ?_
            | with_reducible refine WC_block ?_
            | with_reducible refine thenQ_n ?_
            | with_reducible refine thenQ_r ?_
            | with_reducible refine thenQ_e ?_
            | with_reducible refine blockQ_n ?_
            | with_reducible refine blockQ_r ?_
            | with_reducible refine blockQ_e ?_
            | with_reducible refine blockQ_o rfl ?_
            | with_reducible refine WRs_nil ?_
            | ((with_reducible apply RUN_bool); (focus (intro q hq; simp only [go_sem, Nat.reduceAdd, Nat.reduceSub, Nat.reduceMul] at hq; exact hq.symm)); (focus (intro b q hq; simp only [St.setv, lset, cond, ltb] at hq; exact hq.symm)); intro bb hb; (first | (with_reducible have h9 : true = bb := hb; clear hb; subst h9) | (with_reducible have h9 : false = bb := hb; clear hb; subst h9) | skip))
            | ((with_reducible apply WRs_nil2); (focus (intro q hq; simp only [nilS, isSl, isConstNil, St.ev, St.get, lk, cond, Bool.and_true, Bool.and_self, tk_22, tk_23, tk_26, tk_27, tk_3, tk_30, tk_4, tk_46, tk_47, tk_9] at hq; exact hq.symm)); (focus (intro b q hq; simp only [St.setv, lset, cond, ltb] at hq; exact hq.symm)); intro bb hb; (first | (with_reducible have h9 : true = bb := hb; clear hb; subst h9) | (with_reducible have h9 : false = bb := hb; clear hb; subst h9) | skip))
            | ((with_reducible apply RUN_n); (focus (intro q hq; simp only [go_sem, Nat.reduceAdd, Nat.reduceSub, Nat.reduceMul] at hq; exact hq.symm)))
            | ((with_reducible apply RUN_gt); (focus (intro q hq; simp only [St.get, lk, cond] at hq; exact hq.symm)))
            | ((with_reducible apply WC_draw mx); (focus (intro q hq; simp only [objNames, List.map_cons, List.map_nil, List.filter_cons, List.filter_nil, isObj, lk, cond, if_true, if_false, Bool.false_eq_true] at hq; exact hq.symm)); (focus rfl))
            | with_reducible refine RUND_nil ?_
            | ((with_reducible apply RUND_bool); (focus (intro q hq; simp only [go_sem, Nat.reduceAdd, Nat.reduceSub, Nat.reduceMul] at hq; exact hq.symm)); (focus (intro b q hq; simp only [St.setv, lset, cond, ltb] at hq; exact hq.symm)); intro bb hb; (first | (with_reducible have h9 : true = bb := hb; clear hb; subst h9) | (with_reducible have h9 : false = bb := hb; clear hb; subst h9) | skip))
            | ((with_reducible apply RUND_n); (focus (intro q hq; simp only [go_sem, Nat.reduceAdd, Nat.reduceSub, Nat.reduceMul] at hq; exact hq.symm)))
            | ((with_reducible apply RUND_lbool); (focus (intro q hq; simp only [laOK, List.all_cons, List.all_nil, St.get, lk, cond, AV.refs, AV.refs.refsL, memb, List.append_nil, Bool.and_true, Bool.true_and, Bool.and_self] at hq; exact hq.symm)); (focus (intro q hq; simp only [go_sem, Nat.reduceAdd, Nat.reduceSub, Nat.reduceMul] at hq; exact hq.symm)); (focus (intro b q hq; simp only [St.setv, lset, cond, ltb] at hq; exact hq.symm)); intro bb hb; (first | (with_reducible have h9 : true = bb := hb; clear hb; subst h9) | (with_reducible have h9 : false = bb := hb; clear hb; subst h9) | skip))
            | ((with_reducible apply RUND_l); (focus (intro q hq; simp only [laOK, List.all_cons, List.all_nil, St.get, lk, cond, AV.refs, AV.refs.refsL, memb, List.append_nil, Bool.and_true, Bool.true_and, Bool.and_self] at hq; exact hq.symm)); (focus (intro q hq; simp only [go_sem, Nat.reduceAdd, Nat.reduceSub, Nat.reduceMul] at hq; exact hq.symm)))
            | ((with_reducible apply RUND_lm); (focus (intro q hq; simp only [laOK, List.all_cons, List.all_nil, St.get, lk, cond, AV.refs, AV.refs.refsL, memb, List.append_nil, Bool.and_true, Bool.true_and, Bool.and_self] at hq; exact hq.symm)); (focus (intro q hq; simp only [go_sem, Nat.reduceAdd, Nat.reduceSub, Nat.reduceMul] at hq; exact hq.symm)))
            | ((with_reducible apply RUND_gt); (focus (intro q hq; simp only [St.get, lk, cond] at hq; exact hq.symm)))
            | ((with_reducible apply RUND_gf); (focus (intro q hq; simp only [sameOn, laOK, List.all_cons, List.all_nil, St.get, lk, lset, cond, AV.refs, AV.refs.refsL, memb, List.append_nil, Bool.and_true, Bool.true_and, Bool.and_self, and_self, and_true, skipOK, eq_self, forall_const, implies_true, false_implies, Bool.false_and, Bool.and_false, Bool.false_eq_true] at hq; subst hq; trivial)); (focus (intro q hq; simp only [St.get, lk, cond] at hq; exact hq.symm)); (focus (intro q hq; simp only [St.setv, lset, cond, ltb] at hq; exact hq.symm)))
            | ((with_reducible apply RUND_gu); (focus (intro q hq; simp only [sameOn, laOK, List.all_cons, List.all_nil, St.get, lk, lset, cond, AV.refs, AV.refs.refsL, memb, List.append_nil, Bool.and_true, Bool.true_and, Bool.and_self, and_self, and_true, skipOK, eq_self, forall_const, implies_true, false_implies, Bool.false_and, Bool.and_false, Bool.false_eq_true] at hq; subst hq; trivial)); (focus (intro q hq; simp only [St.get, lk, cond] at hq; exact hq.symm)); (focus (intro q hq; simp only [St.setv, lset, cond, ltb] at hq; exact hq.symm)))
            | ((with_reducible apply RUND_gv); rotate_left; (focus (intro q hq; simp only [St.get, lk, cond] at hq; exact hq.symm)); (focus (intro q hq; simp only [St.setv, lset, cond, ltb] at hq; exact hq.symm)); rotate_left; rotate_left; (focus (intro q hq; simp only [sameOn, laOK, List.all_cons, List.all_nil, St.get, lk, lset, cond, AV.refs, AV.refs.refsL, memb, List.append_nil, Bool.and_true, Bool.true_and, Bool.and_self, and_self, and_true, skipOK, eq_self, forall_const, implies_true, false_implies, Bool.false_and, Bool.and_false, Bool.false_eq_true] at hq; subst hq; trivial)); intro e; (first | subst e | (simp only [Bool.not_eq_true', Bool.not_eq_false'] at e; subst e)); rotate_left; intro e; simp only [Bool.not_true, Bool.not_false, Bool.not_eq_true', Bool.not_eq_false'] at e; subst e)
            | ((with_reducible apply RUND_ch); (focus (intro q hq; simp only [go_sem, Nat.reduceAdd, Nat.reduceSub, Nat.reduceMul] at hq; exact hq.symm)); (focus (intro q hq; simp only [sameOn, laOK, List.all_cons, List.all_nil, St.get, lk, lset, cond, AV.refs, AV.refs.refsL, memb, List.append_nil, Bool.and_true, Bool.true_and, Bool.and_self, and_self, and_true] at hq; subst hq; trivial)); (focus (intro e; first | (cases e; done) | rfl)))
            | ((with_reducible apply RUN_gf); (focus (intro q hq; simp only [St.get, lk, cond] at hq; exact hq.symm)); (focus (intro q hq; simp only [St.setv, lset, cond, ltb] at hq; exact hq.symm)))
            | ((with_reducible apply RUN_gu); (focus (intro q hq; simp only [St.get, lk, cond] at hq; exact hq.symm)); (focus (intro q hq; simp only [St.setv, lset, cond, ltb] at hq; exact hq.symm)))
            | ((with_reducible apply RUN_gv); (focus (intro q hq; simp only [St.get, lk, cond] at hq; exact hq.symm)); (focus (intro q hq; simp only [St.setv, lset, cond, ltb] at hq; exact hq.symm)); intro e; (first | subst e | (simp only [Bool.not_eq_true', Bool.not_eq_false'] at e; subst e)); rotate_left; intro e; simp only [Bool.not_true, Bool.not_false, Bool.not_eq_true', Bool.not_eq_false'] at e; subst e)
            | ((with_reducible apply RUN_ct); (focus (intro q hq; simp only [St.ev, St.get, lk, cond, ofConst] at hq; exact hq.symm)))
            | ((with_reducible apply RUN_cf); (focus (intro q hq; simp only [St.ev, St.get, lk, cond, ofConst] at hq; exact hq.symm)))
            | ((with_reducible apply RUN_phi); (focus (intro q hq; simp only [St.ev, St.get, lk, cond, ofConst] at hq; exact hq.symm)); (focus (intro q hq; simp only [runP, go_sem, Nat.reduceAdd, Nat.reduceSub, Nat.reduceMul] at hq; exact hq.symm)); (focus (intro q hq; simp only [phiS, phiAV, phiD, dstsOf, app, lset, St.get, lk, cond, decide_true, if_true] at hq; exact hq.symm)))
            | ((with_reducible apply RUN_phi2); (focus (intro q hq; simp only [St.ev, St.get, lk, cond, ofConst] at hq; exact hq.symm)); (focus (intro q hq; simp only [runP, go_sem, Nat.reduceAdd, Nat.reduceSub, Nat.reduceMul] at hq; exact hq.symm)); (focus (intro q hq; simp only [runP, go_sem, Nat.reduceAdd, Nat.reduceSub, Nat.reduceMul] at hq; exact hq.symm)); (focus (intro q hq; simp only [phiS, phiAV, phiD, dstsOf, app, lset, St.get, lk, cond, decide_true, if_true] at hq; exact hq.symm)))
            | ((with_reducible apply RUN_cv); (focus (intro q hq; simp only [St.ev, St.get, lk, cond, ofConst] at hq; exact hq.symm)); all_goals (intro e; first | cases e | (simp only [Bool.not_eq_true', Bool.not_eq_false'] at e; subst e) | skip)))
          refine ⟨i + 1, by omega, by omega, ?_⟩
          rw [take_filter hp]
          (intro q hq; simp only [St.keep, keepL, memb, cond, Bool.false_eq_true, if_false] at hq; subst hq; first | rfl | (simp only [hw, ns, List.map_append, hb, cond, List.map_cons, List.map_nil, List.append_nil]; done) | (simp only [hw, ns, List.map_append, hb, cond, List.map_cons, List.map_nil, List.append_nil]; rfl))
      · have : l.take i = l := List.take_of_length_le (by simp at hb; omega)
        rw [this]
        refine ⟨rfl, ?_⟩
        (intro q hq; simp only [St.keep, keepL, memb, cond, Bool.false_eq_true, if_false] at hq; subst hq; first | rfl | (simp only [if_true]; done) | (simp only [if_true]; rfl))
  refine rpick_o (by simp) ?_
  simp only [numb, List.map, Nat.zero_add]
  repeat' (first
    | with_reducible refine WC_seq ?_
    | with_reducible refine WC_region ?_
    | with_reducible refine WC_skip ?_
    | with_reducible refine WC_ret ?_
    | with_reducible refine WC_exit ?_
    | with_reducible refine WC_block ?_
    | with_reducible refine thenQ_n ?_
    | with_reducible refine thenQ_r ?_
    | with_reducible refine thenQ_e ?_
    | with_reducible refine blockQ_n ?_
    | with_reducible refine blockQ_r ?_
    | with_reducible refine blockQ_e ?_
    | with_reducible refine blockQ_o rfl ?_
    | with_reducible refine WRs_nil ?_
    | ((with_reducible apply RUN_bool); (focus (intro q hq; simp only [go_sem, Nat.reduceAdd, Nat.reduceSub, Nat.reduceMul, ns_len] at hq; exact hq.symm)); (focus (intro b q hq; simp only [St.setv, lset, cond, ltb] at hq; exact hq.symm)); intro bb hb; (first | (with_reducible have h9 : true = bb := hb; clear hb; subst h9) | (with_reducible have h9 : false = bb := hb; clear hb; subst h9) | skip))
    | ((with_reducible apply WRs_nil2); (focus (intro q hq; simp only [nilS, isSl, isConstNil, St.ev, St.get, lk, cond, Bool.and_true, Bool.and_self, tk_22, tk_23, tk_26, tk_27, tk_3, tk_30, tk_4, tk_46, tk_47, tk_9] at hq; exact hq.symm)); (focus (intro b q hq; simp only [St.setv, lset, cond, ltb] at hq; exact hq.symm)); intro bb hb; (first | (with_reducible have h9 : true = bb := hb; clear hb; subst h9) | (with_reducible have h9 : false = bb := hb; clear hb; subst h9) | skip))
    | ((with_reducible apply RUN_n); (focus (intro q hq; simp only [go_sem, Nat.reduceAdd, Nat.reduceSub, Nat.reduceMul, ns_len] at hq; exact hq.symm)))
    | ((with_reducible apply RUN_gt); (focus (intro q hq; simp only [St.get, lk, cond] at hq; exact hq.symm)))
    | ((with_reducible apply RUN_gf); (focus (intro q hq; simp only [St.get, lk, cond] at hq; exact hq.symm)); (focus (intro q hq; simp only [St.setv, lset, cond, ltb] at hq; exact hq.symm)))
    | ((with_reducible apply RUN_gu); (focus (intro q hq; simp only [St.get, lk, cond] at hq; exact hq.symm)); (focus (intro q hq; simp only [St.setv, lset, cond, ltb] at hq; exact hq.symm)))
    | ((with_reducible apply RUN_gv); (focus (intro q hq; simp only [St.get, lk, cond] at hq; exact hq.symm)); (focus (intro q hq; simp only [St.setv, lset, cond, ltb] at hq; exact hq.symm)); intro e; (first | subst e | (simp only [Bool.not_eq_true', Bool.not_eq_false'] at e; subst e)); rotate_left; intro e; simp only [Bool.not_true, Bool.not_false, Bool.not_eq_true', Bool.not_eq_false'] at e; subst e)
    | ((with_reducible apply RUN_ct); (focus (intro q hq; simp only [St.ev, St.get, lk, cond, ofConst] at hq; exact hq.symm)))
    | ((with_reducible apply RUN_cf); (focus (intro q hq; simp only [St.ev, St.get, lk, cond, ofConst] at hq; exact hq.symm)))
    | ((with_reducible apply RUN_phi); (focus (intro q hq; simp only [St.ev, St.get, lk, cond, ofConst] at hq; exact hq.symm)); (focus (intro q hq; simp only [runP, go_sem, Nat.reduceAdd, Nat.reduceSub, Nat.reduceMul, ns_len] at hq; exact hq.symm)); (focus (intro q hq; simp only [phiS, phiAV, phiD, dstsOf, app, lset, St.get, lk, cond, decide_true, if_true] at hq; exact hq.symm)))
    | ((with_reducible apply RUN_phi2); (focus (intro q hq; simp only [St.ev, St.get, lk, cond, ofConst] at hq; exact hq.symm)); (focus (intro q hq; simp only [runP, go_sem, Nat.reduceAdd, Nat.reduceSub, Nat.reduceMul, ns_len] at hq; exact hq.symm)); (focus (intro q hq; simp only [runP, go_sem, Nat.reduceAdd, Nat.reduceSub, Nat.reduceMul, ns_len] at hq; exact hq.symm)); (focus (intro q hq; simp only [phiS, phiAV, phiD, dstsOf, app, lset, St.get, lk, cond, decide_true, if_true] at hq; exact hq.symm)))
    | ((with_reducible apply RUN_cv); (focus (intro q hq; simp only [St.ev, St.get, lk, cond, ofConst] at hq; exact hq.symm)); all_goals (intro e; first | cases e | (simp only [Bool.not_eq_true', Bool.not_eq_false'] at e; subst e) | skip)))
  · have h0 : 0 < l.length := by simpa using hb
    have hwp := w64_pred (i := l.length) (by omega) h0
    repeat' (first
      | with_reducible refine WC_seq ?_
      | with_reducible refine WC_region ?_
      | with_reducible refine WC_skip ?_
      | with_reducible refine WC_ret ?_
      | with_reducible refine WC_exit ?_
      | with_reducible refine WC_block ?_
      | with_reducible refine thenQ_n ?_
      | with_reducible refine thenQ_r ?_
      | with_reducible refine thenQ_e ?_
      | with_reducible refine blockQ_n ?_
      | with_reducible refine blockQ_r ?_
      | with_reducible refine blockQ_e ?_
      | with_reducible refine blockQ_o rfl ?_
      | with_reducible refine WRs_nil ?_
      | ((with_reducible apply RUN_bool); (focus (intro q hq; simp only [go_sem, Nat.reduceAdd, Nat.reduceSub, Nat.reduceMul, ns_len, ns_get, lastD h0, hwp, Option.map_some] at hq; exact hq.symm)); (focus (intro b q hq; simp only [St.setv, lset, cond, ltb] at hq; exact hq.symm)); intro bb hb; (first | (with_reducible have h9 : true = bb := hb; clear hb; subst h9) | (with_reducible have h9 : false = bb := hb; clear hb; subst h9) | skip))
      | ((with_reducible apply WRs_nil2); (focus (intro q hq; simp only [nilS, isSl, isConstNil, St.ev, St.get, lk, cond, Bool.and_true, Bool.and_self, tk_22, tk_23, tk_26, tk_27, tk_3, tk_30, tk_4, tk_46, tk_47, tk_9] at hq; exact hq.symm)); (focus (intro b q hq; simp only [St.setv, lset, cond, ltb] at hq; exact hq.symm)); intro bb hb; (first | (with_reducible have h9 : true = bb := hb; clear hb; subst h9) | (with_reducible have h9 : false = bb := hb; clear hb; subst h9) | skip))
      | ((with_reducible apply RUN_n); (focus (intro q hq; simp only [go_sem, Nat.reduceAdd, Nat.reduceSub, Nat.reduceMul, ns_len, ns_get, lastD h0, hwp, Option.map_some] at hq; exact hq.symm)))
      | ((with_reducible apply RUN_gt); (focus (intro q hq; simp only [St.get, lk, cond] at hq; exact hq.symm)))
      | ((with_reducible apply RUN_gf); (focus (intro q hq; simp only [St.get, lk, cond] at hq; exact hq.symm)); (focus (intro q hq; simp only [St.setv, lset, cond, ltb] at hq; exact hq.symm)))
      | ((with_reducible apply RUN_gu); (focus (intro q hq; simp only [St.get, lk, cond] at hq; exact hq.symm)); (focus (intro q hq; simp only [St.setv, lset, cond, ltb] at hq; exact hq.symm)))
      | ((with_reducible apply RUN_gv); (focus (intro q hq; simp only [St.get, lk, cond] at hq; exact hq.symm)); (focus (intro q hq; simp only [St.setv, lset, cond, ltb] at hq; exact hq.symm)); intro e; (first | subst e | (simp only [Bool.not_eq_true', Bool.not_eq_false'] at e; subst e)); rotate_left; intro e; simp only [Bool.not_true, Bool.not_false, Bool.not_eq_true', Bool.not_eq_false'] at e; subst e)
      | ((with_reducible apply RUN_ct); (focus (intro q hq; simp only [St.ev, St.get, lk, cond, ofConst] at hq; exact hq.symm)))
      | ((with_reducible apply RUN_cf); (focus (intro q hq; simp only [St.ev, St.get, lk, cond, ofConst] at hq; exact hq.symm)))
      | ((with_reducible apply RUN_phi); (focus (intro q hq; simp only [St.ev, St.get, lk, cond, ofConst] at hq; exact hq.symm)); (focus (intro q hq; simp only [runP, go_sem, Nat.reduceAdd, Nat.reduceSub, Nat.reduceMul, ns_len, ns_get, lastD h0, hwp, Option.map_some] at hq; exact hq.symm)); (focus (intro q hq; simp only [phiS, phiAV, phiD, dstsOf, app, lset, St.get, lk, cond, decide_true, if_true] at hq; exact hq.symm)))
      | ((with_reducible apply RUN_phi2); (focus (intro q hq; simp only [St.ev, St.get, lk, cond, ofConst] at hq; exact hq.symm)); (focus (intro q hq; simp only [runP, go_sem, Nat.reduceAdd, Nat.reduceSub, Nat.reduceMul, ns_len, ns_get, lastD h0, hwp, Option.map_some] at hq; exact hq.symm)); (focus (intro q hq; simp only [runP, go_sem, Nat.reduceAdd, Nat.reduceSub, Nat.reduceMul, ns_len, ns_get, lastD h0, hwp, Option.map_some] at hq; exact hq.symm)); (focus (intro q hq; simp only [phiS, phiAV, phiD, dstsOf, app, lset, St.get, lk, cond, decide_true, if_true] at hq; exact hq.symm)))
      | ((with_reducible apply RUN_cv); (focus (intro q hq; simp only [St.ev, St.get, lk, cond, ofConst] at hq; exact hq.symm)); all_goals (intro e; first | cases e | (simp only [Bool.not_eq_true', Bool.not_eq_false'] at e; subst e) | skip)))
    refine WC_keep [0, 1, 5, 6, 7] [] rfl (WC_mono loop ?_)
    rintro e s' ⟨rfl, hk⟩
    refine blockQ_e (thenQ_n (WC_keep [5] [1000] rfl ?_))
    rw [hk _ rfl]
    repeat' (first
      | with_reducible refine WC_seq ?_
      | with_reducible refine WC_region ?_
      | with_reducible refine WC_skip ?_
      | with_reducible refine WC_ret ?_
      | with_reducible refine WC_exit ?_
      | with_reducible refine WC_block ?_
      | with_reducible refine thenQ_n ?_
      | with_reducible refine thenQ_r ?_
      | with_reducible refine thenQ_e ?_
      | with_reducible refine blockQ_n ?_
      | with_reducible refine blockQ_r ?_
      | with_reducible refine blockQ_e ?_
      | with_reducible refine blockQ_o rfl ?_
      | with_reducible refine WRs_nil ?_
      | ((with_reducible apply RUN_bool); (focus (intro q hq; simp only [go_sem, Nat.reduceAdd, Nat.reduceSub, Nat.reduceMul] at hq; exact hq.symm)); (focus (intro b q hq; simp only [St.setv, lset, cond, ltb] at hq; exact hq.symm)); intro bb hb; (first | (with_reducible have h9 : true = bb := hb; clear hb; subst h9) | (with_reducible have h9 : false = bb := hb; clear hb; subst h9) | skip))
      | ((with_reducible apply WRs_nil2); (focus (intro q hq; simp only [nilS, isSl, isConstNil, St.ev, St.get, lk, cond, Bool.and_true, Bool.and_self, tk_22, tk_23, tk_26, tk_27, tk_3, tk_30, tk_4, tk_46, tk_47, tk_9] at hq; exact hq.symm)); (focus (intro b q hq; simp only [St.setv, lset, cond, ltb] at hq; exact hq.symm)); intro bb hb; (first | (with_reducible have h9 : true = bb := hb; clear hb; subst h9) | (with_reducible have h9 : false = bb := hb; clear hb; subst h9) | skip))
      | ((with_reducible apply RUN_n); (focus (intro q hq; simp only [go_sem, Nat.reduceAdd, Nat.reduceSub, Nat.reduceMul] at hq; exact hq.symm)))
      | ((with_reducible apply RUN_gt); (focus (intro q hq; simp only [St.get, lk, cond] at hq; exact hq.symm)))
      | ((with_reducible apply RUN_gf); (focus (intro q hq; simp only [St.get, lk, cond] at hq; exact hq.symm)); (focus (intro q hq; simp only [St.setv, lset, cond, ltb] at hq; exact hq.symm)))
      | ((with_reducible apply RUN_gu); (focus (intro q hq; simp only [St.get, lk, cond] at hq; exact hq.symm)); (focus (intro q hq; simp only [St.setv, lset, cond, ltb] at hq; exact hq.symm)))
      | ((with_reducible apply RUN_gv); (focus (intro q hq; simp only [St.get, lk, cond] at hq; exact hq.symm)); (focus (intro q hq; simp only [St.setv, lset, cond, ltb] at hq; exact hq.symm)); intro e; (first | subst e | (simp only [Bool.not_eq_true', Bool.not_eq_false'] at e; subst e)); rotate_left; intro e; simp only [Bool.not_true, Bool.not_false, Bool.not_eq_true', Bool.not_eq_false'] at e; subst e)
      | ((with_reducible apply RUN_ct); (focus (intro q hq; simp only [St.ev, St.get, lk, cond, ofConst] at hq; exact hq.symm)))
      | ((with_reducible apply RUN_cf); (focus (intro q hq; simp only [St.ev, St.get, lk, cond, ofConst] at hq; exact hq.symm)))
      | ((with_reducible apply RUN_phi); (focus (intro q hq; simp only [St.ev, St.get, lk, cond, ofConst] at hq; exact hq.symm)); (focus (intro q hq; simp only [runP, go_sem, Nat.reduceAdd, Nat.reduceSub, Nat.reduceMul] at hq; exact hq.symm)); (focus (intro q hq; simp only [phiS, phiAV, phiD, dstsOf, app, lset, St.get, lk, cond, decide_true, if_true] at hq; exact hq.symm)))
      | ((with_reducible apply RUN_phi2); (focus (intro q hq; simp only [St.ev, St.get, lk, cond, ofConst] at hq; exact hq.symm)); (focus (intro q hq; simp only [runP, go_sem, Nat.reduceAdd, Nat.reduceSub, Nat.reduceMul] at hq; exact hq.symm)); (focus (intro q hq; simp only [runP, go_sem, Nat.reduceAdd, Nat.reduceSub, Nat.reduceMul] at hq; exact hq.symm)); (focus (intro q hq; simp only [phiS, phiAV, phiD, dstsOf, app, lset, St.get, lk, cond, decide_true, if_true] at hq; exact hq.symm)))
      | ((with_reducible apply RUN_cv); (focus (intro q hq; simp only [St.ev, St.get, lk, cond, ofConst] at hq; exact hq.symm)); all_goals (intro e; first | cases e | (simp only [Bool.not_eq_true', Bool.not_eq_false'] at e; subst e) | skip)))
    (with_reducible apply RUN_retD)
    (focus (intro q hq; simp only [aret, arets, St.get, lk, cond] at hq; exact hq.symm))
    (focus (intro q hq; simp only [AV.toD, AV.toD.toDL] at hq; exact hq.symm))
    (focus (intro q hq; simp only [keepL, memb, cond] at hq; exact hq.symm))
    (try refine ⟨?_, rfl⟩)
    (try with_reducible rfl)
  · have h0 : l = [] := by
      cases l with
      | nil => rfl
      | cons x r => exact absurd hb (by first | (simp; done) | (simp; omega))
    subst h0
    refine WC_keep [0, 1, 5, 6, 7] [] rfl (WC_mono loop ?_)
    rintro e s' ⟨rfl, hk⟩
    refine blockQ_e (thenQ_n (WC_keep [5] [1000] rfl ?_))
    rw [hk _ rfl]
    repeat' (first
      | with_reducible refine WC_seq ?_
      | with_reducible refine WC_region ?_
      | with_reducible refine WC_skip ?_
      | with_reducible refine WC_ret ?_
      | with_reducible refine WC_exit ?_
      | with_reducible refine WC_block ?_
      | with_reducible refine thenQ_n ?_
      | with_reducible refine thenQ_r ?_
      | with_reducible refine thenQ_e ?_
      | with_reducible refine blockQ_n ?_
      | with_reducible refine blockQ_r ?_
      | with_reducible refine blockQ_e ?_
      | with_reducible refine blockQ_o rfl ?_
      | with_reducible refine WRs_nil ?_
      | ((with_reducible apply RUN_bool); (focus (intro q hq; simp only [go_sem, Nat.reduceAdd, Nat.reduceSub, Nat.reduceMul] at hq; exact hq.symm)); (focus (intro b q hq; simp only [St.setv, lset, cond, ltb] at hq; exact hq.symm)); intro bb hb; (first | (with_reducible have h9 : true = bb := hb; clear hb; subst h9) | (with_reducible have h9 : false = bb := hb; clear hb; subst h9) | skip))
      | ((with_reducible apply WRs_nil2); (focus (intro q hq; simp only [nilS, isSl, isConstNil, St.ev, St.get, lk, cond, Bool.and_true, Bool.and_self, tk_22, tk_23, tk_26, tk_27, tk_3, tk_30, tk_4, tk_46, tk_47, tk_9] at hq; exact hq.symm)); (focus (intro b q hq; simp only [St.setv, lset, cond, ltb] at hq; exact hq.symm)); intro bb hb; (first | (with_reducible have h9 : true = bb := hb; clear hb; subst h9) | (with_reducible have h9 : false = bb := hb; clear hb; subst h9) | skip))
      | ((with_reducible apply RUN_n); (focus (intro q hq; simp only [go_sem, Nat.reduceAdd, Nat.reduceSub, Nat.reduceMul] at hq; exact hq.symm)))
      | ((with_reducible apply RUN_gt); (focus (intro q hq; simp only [St.get, lk, cond] at hq; exact hq.symm)))
      | ((with_reducible apply RUN_gf); (focus (intro q hq; simp only [St.get, lk, cond] at hq; exact hq.symm)); (focus (intro q hq; simp only [St.setv, lset, cond, ltb] at hq; exact hq.symm)))
      | ((with_reducible apply RUN_gu); (focus (intro q hq; simp only [St.get, lk, cond] at hq; exact hq.symm)); (focus (intro q hq; simp only [St.setv, lset, cond, ltb] at hq; exact hq.symm)))
      | ((with_reducible apply RUN_gv); (focus (intro q hq; simp only [St.get, lk, cond] at hq; exact hq.symm)); (focus (intro q hq; simp only [St.setv, lset, cond, ltb] at hq; exact hq.symm)); intro e; (first | subst e | (simp only [Bool.not_eq_true', Bool.not_eq_false'] at e; subst e)); rotate_left; intro e; simp only [Bool.not_true, Bool.not_false, Bool.not_eq_true', Bool.not_eq_false'] at e; subst e)
      | ((with_reducible apply RUN_ct); (focus (intro q hq; simp only [St.ev, St.get, lk, cond, ofConst] at hq; exact hq.symm)))
      | ((with_reducible apply RUN_cf); (focus (intro q hq; simp only [St.ev, St.get, lk, cond, ofConst] at hq; exact hq.symm)))
      | ((with_reducible apply RUN_phi); (focus (intro q hq; simp only [St.ev, St.get, lk, cond, ofConst] at hq; exact hq.symm)); (focus (intro q hq; simp only [runP, go_sem, Nat.reduceAdd, Nat.reduceSub, Nat.reduceMul] at hq; exact hq.symm)); (focus (intro q hq; simp only [phiS, phiAV, phiD, dstsOf, app, lset, St.get, lk, cond, decide_true, if_true] at hq; exact hq.symm)))
      | ((with_reducible apply RUN_phi2); (focus (intro q hq; simp only [St.ev, St.get, lk, cond, ofConst] at hq; exact hq.symm)); (focus (intro q hq; simp only [runP, go_sem, Nat.reduceAdd, Nat.reduceSub, Nat.reduceMul] at hq; exact hq.symm)); (focus (intro q hq; simp only [runP, go_sem, Nat.reduceAdd, Nat.reduceSub, Nat.reduceMul] at hq; exact hq.symm)); (focus (intro q hq; simp only [phiS, phiAV, phiD, dstsOf, app, lset, St.get, lk, cond, decide_true, if_true] at hq; exact hq.symm)))
      | ((with_reducible apply RUN_cv); (focus (intro q hq; simp only [St.ev, St.get, lk, cond, ofConst] at hq; exact hq.symm)); all_goals (intro e; first | cases e | (simp only [Bool.not_eq_true', Bool.not_eq_false'] at e; subst e) | skip)))
    (with_reducible apply RUN_retD)
    (focus (intro q hq; simp only [aret, arets, St.get, lk, cond] at hq; exact hq.symm))
    (focus (intro q hq; simp only [AV.toD, AV.toD.toDL] at hq; exact hq.symm))
    (focus (intro q hq; simp only [keepL, memb, cond] at hq; exact hq.symm))
    (try refine ⟨?_, rfl⟩)
    (try with_reducible rfl)
theorem beq_cast {a b : Nat} : ((a : Int) == (b : Int)) = decide (a = b) := by
  rw [Bool.eq_iff_iff]; simp only [beq_iff_eq, decide_eq_true_eq]; omega
/-- Where a number stands. -/
def idxF (l : List Nat) (n : Nat) : Int := match l.findIdx? (fun x => x = n) with
  | some i => i
  | none => -1
theorem index32_con (l : List Nat) (n : Nat) (hl : l.length < 4294967296) : Pu Try.prog 29 [.list (ns l), .int .u32 n] (.int .i64 (idxF l n)) := by
  refine index32_o (by simp) ?_
  simp only [numb, List.map, Nat.zero_add]
  repeat' (first
    | with_reducible refine WC_seq ?_
    | with_reducible refine WC_region ?_
    | with_reducible refine WC_skip ?_
    | with_reducible refine WC_ret ?_
    | with_reducible refine WC_exit ?_
    | with_reducible refine WC_block ?_
    | with_reducible refine thenQ_n ?_
    | with_reducible refine thenQ_r ?_
    | with_reducible refine thenQ_e ?_
    | with_reducible refine blockQ_n ?_
    | with_reducible refine blockQ_r ?_
    | with_reducible refine blockQ_e ?_
    | with_reducible refine blockQ_o rfl ?_
    | with_reducible refine WRs_nil ?_
    | ((with_reducible apply RUN_bool); (focus (intro q hq; simp only [go_sem, Nat.reduceAdd, Nat.reduceSub, Nat.reduceMul, ns_len] at hq; exact hq.symm)); (focus (intro b q hq; simp only [St.setv, lset, cond, ltb] at hq; exact hq.symm)); intro bb hb; (first | (with_reducible have h9 : true = bb := hb; clear hb; subst h9) | (with_reducible have h9 : false = bb := hb; clear hb; subst h9) | skip))
    | ((with_reducible apply WRs_nil2); (focus (intro q hq; simp only [nilS, isSl, isConstNil, St.ev, St.get, lk, cond, Bool.and_true, Bool.and_self, tk_22, tk_23, tk_26, tk_27, tk_3, tk_30, tk_4, tk_46, tk_47, tk_9] at hq; exact hq.symm)); (focus (intro b q hq; simp only [St.setv, lset, cond, ltb] at hq; exact hq.symm)); intro bb hb; (first | (with_reducible have h9 : true = bb := hb; clear hb; subst h9) | (with_reducible have h9 : false = bb := hb; clear hb; subst h9) | skip))
    | ((with_reducible apply RUN_n); (focus (intro q hq; simp only [go_sem, Nat.reduceAdd, Nat.reduceSub, Nat.reduceMul, ns_len] at hq; exact hq.symm)))
    | ((with_reducible apply RUN_gt); (focus (intro q hq; simp only [St.get, lk, cond] at hq; exact hq.symm)))
    | ((with_reducible apply RUN_gf); (focus (intro q hq; simp only [St.get, lk, cond] at hq; exact hq.symm)); (focus (intro q hq; simp only [St.setv, lset, cond, ltb] at hq; exact hq.symm)))
    | ((with_reducible apply RUN_gu); (focus (intro q hq; simp only [St.get, lk, cond] at hq; exact hq.symm)); (focus (intro q hq; simp only [St.setv, lset, cond, ltb] at hq; exact hq.symm)))
    | ((with_reducible apply RUN_gv); (focus (intro q hq; simp only [St.get, lk, cond] at hq; exact hq.symm)); (focus (intro q hq; simp only [St.setv, lset, cond, ltb] at hq; exact hq.symm)); intro e; (first | subst e | (simp only [Bool.not_eq_true', Bool.not_eq_false'] at e; subst e)); rotate_left; intro e; simp only [Bool.not_true, Bool.not_false, Bool.not_eq_true', Bool.not_eq_false'] at e; subst e)
    | ((with_reducible apply RUN_ct); (focus (intro q hq; simp only [St.ev, St.get, lk, cond, ofConst] at hq; exact hq.symm)))
    | ((with_reducible apply RUN_cf); (focus (intro q hq; simp only [St.ev, St.get, lk, cond, ofConst] at hq; exact hq.symm)))
    | ((with_reducible apply RUN_phi); (focus (intro q hq; simp only [St.ev, St.get, lk, cond, ofConst] at hq; exact hq.symm)); (focus (intro q hq; simp only [runP, go_sem, Nat.reduceAdd, Nat.reduceSub, Nat.reduceMul, ns_len] at hq; exact hq.symm)); (focus (intro q hq; simp only [phiS, phiAV, phiD, dstsOf, app, lset, St.get, lk, cond, decide_true, if_true] at hq; exact hq.symm)))
    | ((with_reducible apply RUN_phi2); (focus (intro q hq; simp only [St.ev, St.get, lk, cond, ofConst] at hq; exact hq.symm)); (focus (intro q hq; simp only [runP, go_sem, Nat.reduceAdd, Nat.reduceSub, Nat.reduceMul, ns_len] at hq; exact hq.symm)); (focus (intro q hq; simp only [runP, go_sem, Nat.reduceAdd, Nat.reduceSub, Nat.reduceMul, ns_len] at hq; exact hq.symm)); (focus (intro q hq; simp only [phiS, phiAV, phiD, dstsOf, app, lset, St.get, lk, cond, decide_true, if_true] at hq; exact hq.symm)))
    | ((with_reducible apply RUN_cv); (focus (intro q hq; simp only [St.ev, St.get, lk, cond, ofConst] at hq; exact hq.symm)); all_goals (intro e; first | cases e | (simp only [Bool.not_eq_true', Bool.not_eq_false'] at e; subst e) | skip)))
  refine WC_loopI (α := Nat) [0, 1, 7, 8] [] (fun i => i ≤ l.length ∧ ∀ j, j < i → (l[j]? == some n) = false) (fun i => { n := 19, tm := [(0, .d (.list (ns l))), (1, .d (.int .u32 n)), (7, .d (.int .i64 l.length)), (8, .d (.int .i64 i))], hp := [] }) (fun i => l.length - i) rfl 0 (by intro q hq; simp only [St.keep, keepL, memb, cond, Bool.false_eq_true, if_false, if_true] at hq; subst hq; first | rfl | (simp only [if_true]; done) | (simp only [if_true]; rfl)) ?_ (fun i hI => ?_)
  · simp
  · obtain ⟨hI1, hI2⟩ := hI
    repeat' (first
      | with_reducible refine WC_seq ?_
      | with_reducible refine WC_region ?_
      | with_reducible refine WC_skip ?_
      | with_reducible refine WC_ret ?_
      | with_reducible refine WC_exit ?_
      | with_reducible refine WC_block ?_
      | with_reducible refine thenQ_n ?_
      | with_reducible refine thenQ_r ?_
      | with_reducible refine thenQ_e ?_
      | with_reducible refine blockQ_n ?_
      | with_reducible refine blockQ_r ?_
      | with_reducible refine blockQ_e ?_
      | with_reducible refine blockQ_o rfl ?_
      | with_reducible refine WRs_nil ?_
      | ((with_reducible apply RUN_bool); (focus (intro q hq; simp only [go_sem, Nat.reduceAdd, Nat.reduceSub, Nat.reduceMul] at hq; exact hq.symm)); (focus (intro b q hq; simp only [St.setv, lset, cond, ltb] at hq; exact hq.symm)); intro bb hb; (first | (with_reducible have h9 : true = bb := hb; clear hb; subst h9) | (with_reducible have h9 : false = bb := hb; clear hb; subst h9) | skip))
      | ((with_reducible apply WRs_nil2); (focus (intro q hq; simp only [nilS, isSl, isConstNil, St.ev, St.get, lk, cond, Bool.and_true, Bool.and_self, tk_22, tk_23, tk_26, tk_27, tk_3, tk_30, tk_4, tk_46, tk_47, tk_9] at hq; exact hq.symm)); (focus (intro b q hq; simp only [St.setv, lset, cond, ltb] at hq; exact hq.symm)); intro bb hb; (first | (with_reducible have h9 : true = bb := hb; clear hb; subst h9) | (with_reducible have h9 : false = bb := hb; clear hb; subst h9) | skip))
      | ((with_reducible apply RUN_n); (focus (intro q hq; simp only [go_sem, Nat.reduceAdd, Nat.reduceSub, Nat.reduceMul] at hq; exact hq.symm)))
      | ((with_reducible apply RUN_gt); (focus (intro q hq; simp only [St.get, lk, cond] at hq; exact hq.symm)))
      | ((with_reducible apply RUN_gf); (focus (intro q hq; simp only [St.get, lk, cond] at hq; exact hq.symm)); (focus (intro q hq; simp only [St.setv, lset, cond, ltb] at hq; exact hq.symm)))
      | ((with_reducible apply RUN_gu); (focus (intro q hq; simp only [St.get, lk, cond] at hq; exact hq.symm)); (focus (intro q hq; simp only [St.setv, lset, cond, ltb] at hq; exact hq.symm)))
      | ((with_reducible apply RUN_gv); (focus (intro q hq; simp only [St.get, lk, cond] at hq; exact hq.symm)); (focus (intro q hq; simp only [St.setv, lset, cond, ltb] at hq; exact hq.symm)); intro e; (first | subst e | (simp only [Bool.not_eq_true', Bool.not_eq_false'] at e; subst e)); rotate_left; intro e; simp only [Bool.not_true, Bool.not_false, Bool.not_eq_true', Bool.not_eq_false'] at e; subst e)
      | ((with_reducible apply RUN_ct); (focus (intro q hq; simp only [St.ev, St.get, lk, cond, ofConst] at hq; exact hq.symm)))
      | ((with_reducible apply RUN_cf); (focus (intro q hq; simp only [St.ev, St.get, lk, cond, ofConst] at hq; exact hq.symm)))
      | ((with_reducible apply RUN_phi); (focus (intro q hq; simp only [St.ev, St.get, lk, cond, ofConst] at hq; exact hq.symm)); (focus (intro q hq; simp only [runP, go_sem, Nat.reduceAdd, Nat.reduceSub, Nat.reduceMul] at hq; exact hq.symm)); (focus (intro q hq; simp only [phiS, phiAV, phiD, dstsOf, app, lset, St.get, lk, cond, decide_true, if_true] at hq; exact hq.symm)))
      | ((with_reducible apply RUN_phi2); (focus (intro q hq; simp only [St.ev, St.get, lk, cond, ofConst] at hq; exact hq.symm)); (focus (intro q hq; simp only [runP, go_sem, Nat.reduceAdd, Nat.reduceSub, Nat.reduceMul] at hq; exact hq.symm)); (focus (intro q hq; simp only [runP, go_sem, Nat.reduceAdd, Nat.reduceSub, Nat.reduceMul] at hq; exact hq.symm)); (focus (intro q hq; simp only [phiS, phiAV, phiD, dstsOf, app, lset, St.get, lk, cond, decide_true, if_true] at hq; exact hq.symm)))
      | ((with_reducible apply RUN_cv); (focus (intro q hq; simp only [St.ev, St.get, lk, cond, ofConst] at hq; exact hq.symm)); all_goals (intro e; first | cases e | (simp only [Bool.not_eq_true', Bool.not_eq_false'] at e; subst e) | skip)))
    · have hi : i < l.length := by simpa using hb
      obtain ⟨p, hp⟩ : ∃ p, l[i]? = some p := ⟨_, List.getElem?_eq_getElem hi⟩
      have hw := w64_one (i := i) (by omega)
      repeat' (first
        | with_reducible refine WC_seq ?_
        | with_reducible refine WC_region ?_
        | with_reducible refine WC_skip ?_
        | with_reducible refine WC_ret ?_
        | with_reducible refine WC_exit ?_
        | with_reducible refine WC_block ?_
        | with_reducible refine thenQ_n ?_
        | with_reducible refine thenQ_r ?_
        | with_reducible refine thenQ_e ?_
        | with_reducible refine blockQ_n ?_
        | with_reducible refine blockQ_r ?_
        | with_reducible refine blockQ_e ?_
        | with_reducible refine blockQ_o rfl ?_
        | with_reducible refine WRs_nil ?_
        | ((with_reducible apply RUN_bool); (focus (intro q hq; simp only [go_sem, Nat.reduceAdd, Nat.reduceSub, Nat.reduceMul, ns_len, ns_get, hp, Option.map_some] at hq; exact hq.symm)); (focus (intro b q hq; simp only [St.setv, lset, cond, ltb] at hq; exact hq.symm)); intro bb hb; (first | (with_reducible have h9 : true = bb := hb; clear hb; subst h9) | (with_reducible have h9 : false = bb := hb; clear hb; subst h9) | skip))
        | ((with_reducible apply WRs_nil2); (focus (intro q hq; simp only [nilS, isSl, isConstNil, St.ev, St.get, lk, cond, Bool.and_true, Bool.and_self, tk_22, tk_23, tk_26, tk_27, tk_3, tk_30, tk_4, tk_46, tk_47, tk_9] at hq; exact hq.symm)); (focus (intro b q hq; simp only [St.setv, lset, cond, ltb] at hq; exact hq.symm)); intro bb hb; (first | (with_reducible have h9 : true = bb := hb; clear hb; subst h9) | (with_reducible have h9 : false = bb := hb; clear hb; subst h9) | skip))
        | ((with_reducible apply RUN_n); (focus (intro q hq; simp only [go_sem, Nat.reduceAdd, Nat.reduceSub, Nat.reduceMul, ns_len, ns_get, hp, Option.map_some] at hq; exact hq.symm)))
        | ((with_reducible apply RUN_gt); (focus (intro q hq; simp only [St.get, lk, cond] at hq; exact hq.symm)))
        | ((with_reducible apply RUN_gf); (focus (intro q hq; simp only [St.get, lk, cond] at hq; exact hq.symm)); (focus (intro q hq; simp only [St.setv, lset, cond, ltb] at hq; exact hq.symm)))
        | ((with_reducible apply RUN_gu); (focus (intro q hq; simp only [St.get, lk, cond] at hq; exact hq.symm)); (focus (intro q hq; simp only [St.setv, lset, cond, ltb] at hq; exact hq.symm)))
        | ((with_reducible apply RUN_gv); (focus (intro q hq; simp only [St.get, lk, cond] at hq; exact hq.symm)); (focus (intro q hq; simp only [St.setv, lset, cond, ltb] at hq; exact hq.symm)); intro e; (first | subst e | (simp only [Bool.not_eq_true', Bool.not_eq_false'] at e; subst e)); rotate_left; intro e; simp only [Bool.not_true, Bool.not_false, Bool.not_eq_true', Bool.not_eq_false'] at e; subst e)
        | ((with_reducible apply RUN_ct); (focus (intro q hq; simp only [St.ev, St.get, lk, cond, ofConst] at hq; exact hq.symm)))
        | ((with_reducible apply RUN_cf); (focus (intro q hq; simp only [St.ev, St.get, lk, cond, ofConst] at hq; exact hq.symm)))
        | ((with_reducible apply RUN_phi); (focus (intro q hq; simp only [St.ev, St.get, lk, cond, ofConst] at hq; exact hq.symm)); (focus (intro q hq; simp only [runP, go_sem, Nat.reduceAdd, Nat.reduceSub, Nat.reduceMul, ns_len, ns_get, hp, Option.map_some] at hq; exact hq.symm)); (focus (intro q hq; simp only [phiS, phiAV, phiD, dstsOf, app, lset, St.get, lk, cond, decide_true, if_true] at hq; exact hq.symm)))
        | ((with_reducible apply RUN_phi2); (focus (intro q hq; simp only [St.ev, St.get, lk, cond, ofConst] at hq; exact hq.symm)); (focus (intro q hq; simp only [runP, go_sem, Nat.reduceAdd, Nat.reduceSub, Nat.reduceMul, ns_len, ns_get, hp, Option.map_some] at hq; exact hq.symm)); (focus (intro q hq; simp only [runP, go_sem, Nat.reduceAdd, Nat.reduceSub, Nat.reduceMul, ns_len, ns_get, hp, Option.map_some] at hq; exact hq.symm)); (focus (intro q hq; simp only [phiS, phiAV, phiD, dstsOf, app, lset, St.get, lk, cond, decide_true, if_true] at hq; exact hq.symm)))
        | ((with_reducible apply RUN_cv); (focus (intro q hq; simp only [St.ev, St.get, lk, cond, ofConst] at hq; exact hq.symm)); all_goals (intro e; first | cases e | (simp only [Bool.not_eq_true', Bool.not_eq_false'] at e; subst e) | skip)))
      · skip
        (with_reducible apply RUN_ret)
        (focus (intro q hq; simp only [aret, arets, St.get, lk, cond] at hq; exact hq.symm))
        (focus (intro q hq; simp only [keepL, memb, cond] at hq; exact hq.symm))
        (try refine ⟨?_, rfl⟩)
        (try with_reducible rfl)
        have : l.findIdx? (fun x => x = n) = some i := by
          rw [List.findIdx?_eq_some_iff_getElem]
          refine ⟨hi, ?_, fun j hj => ?_⟩
          · have := List.getElem?_eq_getElem hi
            rw [hp] at this; simp at this hb; simp [← this]; first | done | omega
          · have := hI2 j hj
            rw [List.getElem?_eq_getElem (by omega)] at this
            simpa using this
        simp only [idxF, this]
      · refine ⟨i + 1, ⟨by omega, fun j hj => ?_⟩, by omega, ?_⟩
        · by_cases e : j = i
          · rw [e, hp]; simp at hb ⊢; omega
          · exact hI2 j (by omega)
        · skip
          (intro q hq; simp only [St.keep, keepL, memb, cond, Bool.false_eq_true, if_false] at hq; subst hq; first | rfl | (simp only [hw]; done) | (simp only [hw]; rfl))
    · skip
      repeat' (first
        | with_reducible refine WC_seq ?_
        | with_reducible refine WC_region ?_
        | with_reducible refine WC_skip ?_
        | with_reducible refine WC_ret ?_
        | with_reducible refine WC_exit ?_
        | with_reducible refine WC_block ?_
        | with_reducible refine thenQ_n ?_
        | with_reducible refine thenQ_r ?_
        | with_reducible refine thenQ_e ?_
        | with_reducible refine blockQ_n ?_
        | with_reducible refine blockQ_r ?_
        | with_reducible refine blockQ_e ?_
        | with_reducible refine blockQ_o rfl ?_
        | with_reducible refine WRs_nil ?_
        | ((with_reducible apply RUN_bool); (focus (intro q hq; simp only [go_sem, Nat.reduceAdd, Nat.reduceSub, Nat.reduceMul] at hq; exact hq.symm)); (focus (intro b q hq; simp only [St.setv, lset, cond, ltb] at hq; exact hq.symm)); intro bb hb; (first | (with_reducible have h9 : true = bb := hb; clear hb; subst h9) | (with_reducible have h9 : false = bb := hb; clear hb; subst h9) | skip))
        | ((with_reducible apply WRs_nil2); (focus (intro q hq; simp only [nilS, isSl, isConstNil, St.ev, St.get, lk, cond, Bool.and_true, Bool.and_self, tk_22, tk_23, tk_26, tk_27, tk_3, tk_30, tk_4, tk_46, tk_47, tk_9] at hq; exact hq.symm)); (focus (intro b q hq; simp only [St.setv, lset, cond, ltb] at hq; exact hq.symm)); intro bb hb; (first | (with_reducible have h9 : true = bb := hb; clear hb; subst h9) | (with_reducible have h9 : false = bb := hb; clear hb; subst h9) | skip))
        | ((with_reducible apply RUN_n); (focus (intro q hq; simp only [go_sem, Nat.reduceAdd, Nat.reduceSub, Nat.reduceMul] at hq; exact hq.symm)))
        | ((with_reducible apply RUN_gt); (focus (intro q hq; simp only [St.get, lk, cond] at hq; exact hq.symm)))
        | ((with_reducible apply RUN_gf); (focus (intro q hq; simp only [St.get, lk, cond] at hq; exact hq.symm)); (focus (intro q hq; simp only [St.setv, lset, cond, ltb] at hq; exact hq.symm)))
        | ((with_reducible apply RUN_gu); (focus (intro q hq; simp only [St.get, lk, cond] at hq; exact hq.symm)); (focus (intro q hq; simp only [St.setv, lset, cond, ltb] at hq; exact hq.symm)))
        | ((with_reducible apply RUN_gv); (focus (intro q hq; simp only [St.get, lk, cond] at hq; exact hq.symm)); (focus (intro q hq; simp only [St.setv, lset, cond, ltb] at hq; exact hq.symm)); intro e; (first | subst e | (simp only [Bool.not_eq_true', Bool.not_eq_false'] at e; subst e)); rotate_left; intro e; simp only [Bool.not_true, Bool.not_false, Bool.not_eq_true', Bool.not_eq_false'] at e; subst e)
        | ((with_reducible apply RUN_ct); (focus (intro q hq; simp only [St.ev, St.get, lk, cond, ofConst] at hq; exact hq.symm)))
        | ((with_reducible apply RUN_cf); (focus (intro q hq; simp only [St.ev, St.get, lk, cond, ofConst] at hq; exact hq.symm)))
        | ((with_reducible apply RUN_phi); (focus (intro q hq; simp only [St.ev, St.get, lk, cond, ofConst] at hq; exact hq.symm)); (focus (intro q hq; simp only [runP, go_sem, Nat.reduceAdd, Nat.reduceSub, Nat.reduceMul] at hq; exact hq.symm)); (focus (intro q hq; simp only [phiS, phiAV, phiD, dstsOf, app, lset, St.get, lk, cond, decide_true, if_true] at hq; exact hq.symm)))
        | ((with_reducible apply RUN_phi2); (focus (intro q hq; simp only [St.ev, St.get, lk, cond, ofConst] at hq; exact hq.symm)); (focus (intro q hq; simp only [runP, go_sem, Nat.reduceAdd, Nat.reduceSub, Nat.reduceMul] at hq; exact hq.symm)); (focus (intro q hq; simp only [runP, go_sem, Nat.reduceAdd, Nat.reduceSub, Nat.reduceMul] at hq; exact hq.symm)); (focus (intro q hq; simp only [phiS, phiAV, phiD, dstsOf, app, lset, St.get, lk, cond, decide_true, if_true] at hq; exact hq.symm)))
        | ((with_reducible apply RUN_cv); (focus (intro q hq; simp only [St.ev, St.get, lk, cond, ofConst] at hq; exact hq.symm)); all_goals (intro e; first | cases e | (simp only [Bool.not_eq_true', Bool.not_eq_false'] at e; subst e) | skip)))
      (with_reducible apply RUN_ret)
      (focus (intro q hq; simp only [aret, arets, St.get, lk, cond] at hq; exact hq.symm))
      (focus (intro q hq; simp only [keepL, memb, cond] at hq; exact hq.symm))
      (try refine ⟨?_, rfl⟩)
      (try with_reducible rfl)
      have : l.findIdx? (fun x => x = n) = none := by
        rw [List.findIdx?_eq_none_iff]
        intro x hx
        obtain ⟨j, hj, rfl⟩ := List.mem_iff_getElem.1 hx
        have := hI2 j (by simp at hb; omega)
        rw [List.getElem?_eq_getElem hj] at this
        simpa using this
      simp only [idxF, this]
theorem eq32_con (a b : Nat) : Pu Try.prog 31 [.int .u32 a, .int .u32 b] (.bool (decide (a = b))) := by
  refine eq32_o (by simp) ?_
  simp only [numb, List.map, Nat.zero_add]
  repeat' (first
    | with_reducible refine WC_seq ?_
    | with_reducible refine WC_region ?_
    | with_reducible refine WC_skip ?_
    | with_reducible refine WC_ret ?_
    | with_reducible refine WC_exit ?_
    | with_reducible refine WC_block ?_
    | with_reducible refine thenQ_n ?_
    | with_reducible refine thenQ_r ?_
    | with_reducible refine thenQ_e ?_
    | with_reducible refine blockQ_n ?_
    | with_reducible refine blockQ_r ?_
    | with_reducible refine blockQ_e ?_
    | with_reducible refine blockQ_o rfl ?_
    | with_reducible refine WRs_nil ?_
    | ((with_reducible apply RUN_bool); (focus (intro q hq; simp only [go_sem, Nat.reduceAdd, Nat.reduceSub, Nat.reduceMul] at hq; exact hq.symm)); (focus (intro b q hq; simp only [St.setv, lset, cond, ltb] at hq; exact hq.symm)); intro bb hb; (first | (with_reducible have h9 : true = bb := hb; clear hb; subst h9) | (with_reducible have h9 : false = bb := hb; clear hb; subst h9) | skip))
    | ((with_reducible apply WRs_nil2); (focus (intro q hq; simp only [nilS, isSl, isConstNil, St.ev, St.get, lk, cond, Bool.and_true, Bool.and_self, tk_22, tk_23, tk_26, tk_27, tk_3, tk_30, tk_4, tk_46, tk_47, tk_9] at hq; exact hq.symm)); (focus (intro b q hq; simp only [St.setv, lset, cond, ltb] at hq; exact hq.symm)); intro bb hb; (first | (with_reducible have h9 : true = bb := hb; clear hb; subst h9) | (with_reducible have h9 : false = bb := hb; clear hb; subst h9) | skip))
    | ((with_reducible apply RUN_n); (focus (intro q hq; simp only [go_sem, Nat.reduceAdd, Nat.reduceSub, Nat.reduceMul] at hq; exact hq.symm)))
    | ((with_reducible apply RUN_gt); (focus (intro q hq; simp only [St.get, lk, cond] at hq; exact hq.symm)))
    | ((with_reducible apply RUN_gf); (focus (intro q hq; simp only [St.get, lk, cond] at hq; exact hq.symm)); (focus (intro q hq; simp only [St.setv, lset, cond, ltb] at hq; exact hq.symm)))
    | ((with_reducible apply RUN_gu); (focus (intro q hq; simp only [St.get, lk, cond] at hq; exact hq.symm)); (focus (intro q hq; simp only [St.setv, lset, cond, ltb] at hq; exact hq.symm)))
    | ((with_reducible apply RUN_gv); (focus (intro q hq; simp only [St.get, lk, cond] at hq; exact hq.symm)); (focus (intro q hq; simp only [St.setv, lset, cond, ltb] at hq; exact hq.symm)); intro e; (first | subst e | (simp only [Bool.not_eq_true', Bool.not_eq_false'] at e; subst e)); rotate_left; intro e; simp only [Bool.not_true, Bool.not_false, Bool.not_eq_true', Bool.not_eq_false'] at e; subst e)
    | ((with_reducible apply RUN_ct); (focus (intro q hq; simp only [St.ev, St.get, lk, cond, ofConst] at hq; exact hq.symm)))
    | ((with_reducible apply RUN_cf); (focus (intro q hq; simp only [St.ev, St.get, lk, cond, ofConst] at hq; exact hq.symm)))
    | ((with_reducible apply RUN_phi); (focus (intro q hq; simp only [St.ev, St.get, lk, cond, ofConst] at hq; exact hq.symm)); (focus (intro q hq; simp only [runP, go_sem, Nat.reduceAdd, Nat.reduceSub, Nat.reduceMul] at hq; exact hq.symm)); (focus (intro q hq; simp only [phiS, phiAV, phiD, dstsOf, app, lset, St.get, lk, cond, decide_true, if_true] at hq; exact hq.symm)))
    | ((with_reducible apply RUN_phi2); (focus (intro q hq; simp only [St.ev, St.get, lk, cond, ofConst] at hq; exact hq.symm)); (focus (intro q hq; simp only [runP, go_sem, Nat.reduceAdd, Nat.reduceSub, Nat.reduceMul] at hq; exact hq.symm)); (focus (intro q hq; simp only [runP, go_sem, Nat.reduceAdd, Nat.reduceSub, Nat.reduceMul] at hq; exact hq.symm)); (focus (intro q hq; simp only [phiS, phiAV, phiD, dstsOf, app, lset, St.get, lk, cond, decide_true, if_true] at hq; exact hq.symm)))
    | ((with_reducible apply RUN_cv); (focus (intro q hq; simp only [St.ev, St.get, lk, cond, ofConst] at hq; exact hq.symm)); all_goals (intro e; first | cases e | (simp only [Bool.not_eq_true', Bool.not_eq_false'] at e; subst e) | skip)))
  (with_reducible apply RUN_ret)
  (focus (intro q hq; simp only [aret, arets, St.get, lk, cond] at hq; exact hq.symm))
  (focus (intro q hq; simp only [keepL, memb, cond] at hq; exact hq.symm))
  (try refine ⟨?_, rfl⟩)
  (try with_reducible rfl)
  rw [← hb, beq_cast]
end Go.Proofs.Ythmiekppdhmbiaa
