import Derived.Test.YthmiekppdhmbiaaC24T5
set_option linter.unusedVariables false
set_option linter.unusedSimpArgs false
namespace Go.Proofs.Ythmiekppdhmbiaa
open Go.Wl
attribute [local irreducible] WRs WDs WC
attribute [local go_sem] Value.cells List.toList_toArray aappend apSrc abuildS abuildS.go List.all_cons List.all_nil St.untag AV.untag AV.untag.untagL Ob.untag tmMap hpMap aopS aop ob St.setv St.ev St.get lk lset cond ltb ofConst ofConst.ofConst0 ank apick afield aload AV.part AV.aggOf afieldV astore AV.cells? AV.one D.one splice aext aun alen AV.list aconv acv abuiltin AV.toD AV.toD.toDL List.map Option.map abin aint ashift astr isConstNil nilOf aindex2 aindexV2 aslice2 asliceL2 ibnd2 aminmax List.take List.drop List.append Nat.zero_add Nat.add_zero List.nil_append List.cons_append List.length_cons List.length_nil List.getElem?_cons_zero List.getElem?_cons_succ List.all_cons List.all_nil Bool.and_true Bool.true_and if_true Bool.not_true Bool.not_false Bool.false_or Bool.or_false St.nmOf freshC freshN anewN abox aalloc anew tmHas hpHas ldel Ob.has AV.has AV.has.hasL unbytes_u8 wd_int cl_int wd_bool cl_bool wd_str cl_str wd_nilp cl_nilp wd_nilfunc cl_nilfunc wd_nilif cl_nilif wd_list cl_list wd_cptr cl_cptr wd_iface cl_iface wd_func cl_func wd_agg cl_agg Int.toNat_natCast Int.natCast_nonneg true_and and_true decide_true decide_false Bool.cond_self Bool.false_eq_true if_false aopD aval acvP abval ag_22 ag_23 ag_25 ag_26 ag_27 ag_29 ag_3 ag_4 ag_43 ag_46 ag_47 ag_49 ag_9 apd_23 apd_26 apd_27 apd_46 apd_47 arr_23 arr_26 arr_27 arr_30 arr_46 arr_47 cvB_3_22 cvB_47_9 cvK_3_22 cvK_47_9 el_23 el_26 el_27 el_30 el_46 el_47 fd_25_0 fd_25_1 fd_25_2 fd_25_3 fd_25_4 fd_25_5 fd_29_0 fd_29_1 fd_29_2 fd_29_3 fd_29_4 fd_43_0 fd_43_1 fd_49_0 fd_49_1 fd_49_2 fd_49_3 fd_49_4 fd_49_5 fd_49_6 fd_49_7 fd_49_8 fp_25 fp_29 fp_43 fp_49 isStr_23 isStr_26 isStr_27 isStr_30 isStr_46 isStr_47 tk_22 tk_23 tk_26 tk_27 tk_3 tk_30 tk_4 tk_46 tk_47 tk_9 zv_22 zv_25 zv_29 zv_43 zv_46 zv_49 zv_5 zv_9
def sight (box : List UInt8) (valid : Nat) (read : Bool) (u : List Nat) (fl : List D) : D := .agg [.str box, .int .u32 valid, .bool read, .list (ns u), .list fl]
theorem idxF_lt (l : List Nat) (n : Nat) : -1 ≤ idxF l n ∧ idxF l n < l.length := by
  unfold idxF
  split
  · rename_i i h
    rw [List.findIdx?_eq_some_iff_getElem] at h
    obtain ⟨h, _⟩ := h
    omega
  · omega
theorem number_con (box : List UInt8) (valid : Nat) (read : Bool) (u : List Nat) (fl : List D) (n : Nat) (hl : u.length < 4294967296) : Pu Try.prog 14 [sight box valid read u fl, .int .u32 n] (.int .i64 (idxF u n + 1)) := by
  refine number_o (by simp) ?_
  simp only [numb, List.map, Nat.zero_add, sight]
  repeat' (first
    | with_reducible refine WC_seq ?_
    | with_reducible refine WC_region ?_
    | with_reducible refine WC_skip ?_
    | with_reducible refine WC_ret ?_
    | with_reducible refine WC_exit ?_
    | with_reducible refine WC_block ?_
    | with_reducible refine thenQ_n ?_
    | with_reducible refine thenQ_r ?_
    | with_reducible refine thenQ_e ?_
    | with_reducible refine blockQ_n ?_
    | with_reducible refine blockQ_r ?_
    | with_reducible refine blockQ_e ?_
    | with_reducible refine blockQ_o rfl ?_
    | with_reducible refine WRs_nil ?_
    | ((with_reducible apply RUN_bool); (focus (intro q hq; simp only [go_sem, Nat.reduceAdd, Nat.reduceSub, Nat.reduceMul] at hq; exact hq.symm)); (focus (intro b q hq; simp only [St.setv, lset, cond, ltb] at hq; exact hq.symm)); intro bb hb; (first | (with_reducible have h9 : true = bb := hb; clear hb; subst h9) | (with_reducible have h9 : false = bb := hb; clear hb; subst h9) | skip))
    | ((with_reducible apply WRs_nil2); (focus (intro q hq; simp only [nilS, isSl, isConstNil, St.ev, St.get, lk, cond, Bool.and_true, Bool.and_self, tk_22, tk_23, tk_26, tk_27, tk_3, tk_30, tk_4, tk_46, tk_47, tk_9] at hq; exact hq.symm)); (focus (intro b q hq; simp only [St.setv, lset, cond, ltb] at hq; exact hq.symm)); intro bb hb; (first | (with_reducible have h9 : true = bb := hb; clear hb; subst h9) | (with_reducible have h9 : false = bb := hb; clear hb; subst h9) | skip))
    | ((with_reducible apply RUN_n); (focus (intro q hq; simp only [go_sem, Nat.reduceAdd, Nat.reduceSub, Nat.reduceMul] at hq; exact hq.symm)))
    | ((with_reducible apply RUN_gt); (focus (intro q hq; simp only [St.get, lk, cond] at hq; exact hq.symm)))
    | ((with_reducible apply RUN_gf); (focus (intro q hq; simp only [St.get, lk, cond] at hq; exact hq.symm)); (focus (intro q hq; simp only [St.setv, lset, cond, ltb] at hq; exact hq.symm)))
    | ((with_reducible apply RUN_gu); (focus (intro q hq; simp only [St.get, lk, cond] at hq; exact hq.symm)); (focus (intro q hq; simp only [St.setv, lset, cond, ltb] at hq; exact hq.symm)))
    | ((with_reducible apply RUN_gv); (focus (intro q hq; simp only [St.get, lk, cond] at hq; exact hq.symm)); (focus (intro q hq; simp only [St.setv, lset, cond, ltb] at hq; exact hq.symm)); intro e; (first | subst e | (simp only [Bool.not_eq_true', Bool.not_eq_false'] at e; subst e)); rotate_left; intro e; simp only [Bool.not_true, Bool.not_false, Bool.not_eq_true', Bool.not_eq_false'] at e; subst e)
    | ((with_reducible apply RUN_ct); (focus (intro q hq; simp only [St.ev, St.get, lk, cond, ofConst] at hq; exact hq.symm)))
    | ((with_reducible apply RUN_cf); (focus (intro q hq; simp only [St.ev, St.get, lk, cond, ofConst] at hq; exact hq.symm)))
    | ((with_reducible apply RUN_phi); (focus (intro q hq; simp only [St.ev, St.get, lk, cond, ofConst] at hq; exact hq.symm)); (focus (intro q hq; simp only [runP, go_sem, Nat.reduceAdd, Nat.reduceSub, Nat.reduceMul] at hq; exact hq.symm)); (focus (intro q hq; simp only [phiS, phiAV, phiD, dstsOf, app, lset, St.get, lk, cond, decide_true, if_true] at hq; exact hq.symm)))
    | ((with_reducible apply RUN_phi2); (focus (intro q hq; simp only [St.ev, St.get, lk, cond, ofConst] at hq; exact hq.symm)); (focus (intro q hq; simp only [runP, go_sem, Nat.reduceAdd, Nat.reduceSub, Nat.reduceMul] at hq; exact hq.symm)); (focus (intro q hq; simp only [runP, go_sem, Nat.reduceAdd, Nat.reduceSub, Nat.reduceMul] at hq; exact hq.symm)); (focus (intro q hq; simp only [phiS, phiAV, phiD, dstsOf, app, lset, St.get, lk, cond, decide_true, if_true] at hq; exact hq.symm)))
    | ((with_reducible apply RUN_pcallB); (focus (intro q hq; simp only [St.ev, St.get, lk, cond] at hq; exact hq.symm)); (focus (intro q hq; simp only [toDs, List.map, List.append, Array.toList, St.ev, St.get, lk, cond, ofConst, AV.toD, AV.toD.toDL, HAppend.hAppend, Append.append] at hq; exact hq.symm)); (focus (exact index32_con u n hl)); (focus (intro b q hq; simp only [St.setv, lset, cond, ltb] at hq; exact hq.symm)); intro bb hb; (first | (with_reducible have h9 : true = bb := hb; clear hb; subst h9) | (with_reducible have h9 : false = bb := hb; clear hb; subst h9) | skip))
    | ((with_reducible apply RUN_pcall); (focus (intro q hq; simp only [St.ev, St.get, lk, cond] at hq; exact hq.symm)); (focus (intro q hq; simp only [toDs, List.map, List.append, Array.toList, St.ev, St.get, lk, cond, ofConst, AV.toD, AV.toD.toDL, HAppend.hAppend, Append.append] at hq; exact hq.symm)); (focus (exact index32_con u n hl)); (focus (intro q hq; simp only [St.setv, lset, cond, ltb] at hq; exact hq.symm)))
    | ((with_reducible apply RUN_cv); (focus (intro q hq; simp only [St.ev, St.get, lk, cond, ofConst] at hq; exact hq.symm)); all_goals (intro e; first | cases e | (simp only [Bool.not_eq_true', Bool.not_eq_false'] at e; subst e) | skip)))
  (with_reducible apply RUN_ret)
  (focus (intro q hq; simp only [aret, arets, St.get, lk, cond] at hq; exact hq.symm))
  (focus (intro q hq; simp only [keepL, memb, cond] at hq; exact hq.symm))
  (try refine ⟨?_, rfl⟩)
  (try with_reducible rfl)
  have := idxF_lt u n
  rw [w64 (by omega) (by omega)]
theorem rright_con (box : List UInt8) (valid : Nat) (read : Bool) (u : List Nat) (fl : List D) (hl : u.length < 4294967296) : Pu Try.prog 12 [sight box valid read u fl] (.bool (risesF u && decide (fl.length = u.length))) := by
  refine rright_o (by simp) ?_
  simp only [numb, List.map, Nat.zero_add, sight]
  repeat' (first
    | with_reducible refine WC_seq ?_
    | with_reducible refine WC_region ?_
    | with_reducible refine WC_skip ?_
    | with_reducible refine WC_ret ?_
    | with_reducible refine WC_exit ?_
    | with_reducible refine WC_block ?_
    | with_reducible refine thenQ_n ?_
    | with_reducible refine thenQ_r ?_
    | with_reducible refine thenQ_e ?_
    | with_reducible refine blockQ_n ?_
    | with_reducible refine blockQ_r ?_
    | with_reducible refine blockQ_e ?_
    | with_reducible refine blockQ_o rfl ?_
    | with_reducible refine WRs_nil ?_
    | ((with_reducible apply RUN_bool); (focus (intro q hq; simp only [go_sem, Nat.reduceAdd, Nat.reduceSub, Nat.reduceMul, ns_len] at hq; exact hq.symm)); (focus (intro b q hq; simp only [St.setv, lset, cond, ltb] at hq; exact hq.symm)); intro bb hb; (first | (with_reducible have h9 : true = bb := hb; clear hb; subst h9) | (with_reducible have h9 : false = bb := hb; clear hb; subst h9) | skip))
    | ((with_reducible apply WRs_nil2); (focus (intro q hq; simp only [nilS, isSl, isConstNil, St.ev, St.get, lk, cond, Bool.and_true, Bool.and_self, tk_22, tk_23, tk_26, tk_27, tk_3, tk_30, tk_4, tk_46, tk_47, tk_9] at hq; exact hq.symm)); (focus (intro b q hq; simp only [St.setv, lset, cond, ltb] at hq; exact hq.symm)); intro bb hb; (first | (with_reducible have h9 : true = bb := hb; clear hb; subst h9) | (with_reducible have h9 : false = bb := hb; clear hb; subst h9) | skip))
    | ((with_reducible apply RUN_n); (focus (intro q hq; simp only [go_sem, Nat.reduceAdd, Nat.reduceSub, Nat.reduceMul, ns_len] at hq; exact hq.symm)))
    | ((with_reducible apply RUN_gt); (focus (intro q hq; simp only [St.get, lk, cond] at hq; exact hq.symm)))
    | ((with_reducible apply RUN_gf); (focus (intro q hq; simp only [St.get, lk, cond] at hq; exact hq.symm)); (focus (intro q hq; simp only [St.setv, lset, cond, ltb] at hq; exact hq.symm)))
    | ((with_reducible apply RUN_gu); (focus (intro q hq; simp only [St.get, lk, cond] at hq; exact hq.symm)); (focus (intro q hq; simp only [St.setv, lset, cond, ltb] at hq; exact hq.symm)))
    | ((with_reducible apply RUN_gv); (focus (intro q hq; simp only [St.get, lk, cond] at hq; exact hq.symm)); (focus (intro q hq; simp only [St.setv, lset, cond, ltb] at hq; exact hq.symm)); intro e; (first | subst e | (simp only [Bool.not_eq_true', Bool.not_eq_false'] at e; subst e)); rotate_left; intro e; simp only [Bool.not_true, Bool.not_false, Bool.not_eq_true', Bool.not_eq_false'] at e; subst e)
    | ((with_reducible apply RUN_ct); (focus (intro q hq; simp only [St.ev, St.get, lk, cond, ofConst] at hq; exact hq.symm)))
    | ((with_reducible apply RUN_cf); (focus (intro q hq; simp only [St.ev, St.get, lk, cond, ofConst] at hq; exact hq.symm)))
    | ((with_reducible apply RUN_phi); (focus (intro q hq; simp only [St.ev, St.get, lk, cond, ofConst] at hq; exact hq.symm)); (focus (intro q hq; simp only [runP, go_sem, Nat.reduceAdd, Nat.reduceSub, Nat.reduceMul, ns_len] at hq; exact hq.symm)); (focus (intro q hq; simp only [phiS, phiAV, phiD, dstsOf, app, lset, St.get, lk, cond, decide_true, if_true] at hq; exact hq.symm)))
    | ((with_reducible apply RUN_phi2); (focus (intro q hq; simp only [St.ev, St.get, lk, cond, ofConst] at hq; exact hq.symm)); (focus (intro q hq; simp only [runP, go_sem, Nat.reduceAdd, Nat.reduceSub, Nat.reduceMul, ns_len] at hq; exact hq.symm)); (focus (intro q hq; simp only [runP, go_sem, Nat.reduceAdd, Nat.reduceSub, Nat.reduceMul, ns_len] at hq; exact hq.symm)); (focus (intro q hq; simp only [phiS, phiAV, phiD, dstsOf, app, lset, St.get, lk, cond, decide_true, if_true] at hq; exact hq.symm)))
    | ((with_reducible apply RUN_pcallB); (focus (intro q hq; simp only [St.ev, St.get, lk, cond] at hq; exact hq.symm)); (focus (intro q hq; simp only [toDs, List.map, List.append, Array.toList, St.ev, St.get, lk, cond, ofConst, AV.toD, AV.toD.toDL, HAppend.hAppend, Append.append] at hq; exact hq.symm)); (focus (exact rises_con u hl)); (focus (intro b q hq; simp only [St.setv, lset, cond, ltb] at hq; exact hq.symm)); intro bb hb; (first | (with_reducible have h9 : true = bb := hb; clear hb; subst h9) | (with_reducible have h9 : false = bb := hb; clear hb; subst h9) | skip))
    | ((with_reducible apply RUN_pcall); (focus (intro q hq; simp only [St.ev, St.get, lk, cond] at hq; exact hq.symm)); (focus (intro q hq; simp only [toDs, List.map, List.append, Array.toList, St.ev, St.get, lk, cond, ofConst, AV.toD, AV.toD.toDL, HAppend.hAppend, Append.append] at hq; exact hq.symm)); (focus (exact rises_con u hl)); (focus (intro q hq; simp only [St.setv, lset, cond, ltb] at hq; exact hq.symm)))
    | ((with_reducible apply RUN_cv); (focus (intro q hq; simp only [St.ev, St.get, lk, cond, ofConst] at hq; exact hq.symm)); all_goals (intro e; first | cases e | (simp only [Bool.not_eq_true', Bool.not_eq_false'] at e; subst e) | skip)))
  · skip
    (with_reducible apply RUN_ret)
    (focus (intro q hq; simp only [aret, arets, St.get, lk, cond] at hq; exact hq.symm))
    (focus (intro q hq; simp only [keepL, memb, cond] at hq; exact hq.symm))
    (try refine ⟨?_, rfl⟩)
    (try with_reducible rfl)
    rw [hb]; rfl
  · skip
    (with_reducible apply RUN_ret)
    (focus (intro q hq; simp only [aret, arets, St.get, lk, cond] at hq; exact hq.symm))
    (focus (intro q hq; simp only [keepL, memb, cond] at hq; exact hq.symm))
    (try refine ⟨?_, rfl⟩)
    (try with_reducible rfl)
    rename_i h1
    rw [h1, ← hb, beq_cast]; rfl
theorem range_take {l : List Nat} {i : Nat} {x : Nat} {p : Nat → Bool} (h : l[i]? = some x) : (((List.range (i + 1)).filter p).map fun j => l.getD j 0) = (((List.range i).filter p).map fun j => l.getD j 0) ++ (bif p i then [x] else []) := by
  rw [List.range_succ, List.filter_append, List.map_append]
  have : l.getD i 0 = x := by rw [List.getD_eq_getElem?_getD, h]; rfl
  cases hp : p i <;> simp [hp, h]
theorem uids_con (box : List UInt8) (valid : Nat) (read : Bool) (u : List Nat) (fl : List D) (r : List (Nat × Nat)) (by_ : Bool) (hl : u.length < 4294967295) (hr : r.length < 4294967296) : Pu Try.prog 17 [sight box valid read u fl, .list (r.map rg), .bool by_] (.list (ns (if by_ then u.filter fun n => hasF r n (u.getLastD 0) else ((List.range u.length).filter fun i => hasF r (i + 1) u.length).map fun i => u.getD i 0))) := by
  refine uids_o (by simp) ?_
  simp only [numb, List.map, Nat.zero_add, sight]
  repeat' (first
    | with_reducible refine WC_seq ?_
    | with_reducible refine WC_region ?_
    | with_reducible refine WC_skip ?_
    | with_reducible refine WC_ret ?_
    | with_reducible refine WC_exit ?_
    | with_reducible refine WC_block ?_
    | with_reducible refine thenQ_n ?_
    | with_reducible refine thenQ_r ?_
    | with_reducible refine thenQ_e ?_
    | with_reducible refine blockQ_n ?_
    | with_reducible refine blockQ_r ?_
    | with_reducible refine blockQ_e ?_
    | with_reducible refine blockQ_o rfl ?_
    | with_reducible refine WRs_nil ?_
    | ((with_reducible apply RUN_bool); (focus (intro q hq; simp only [go_sem, Nat.reduceAdd, Nat.reduceSub, Nat.reduceMul] at hq; exact hq.symm)); (focus (intro b q hq; simp only [St.setv, lset, cond, ltb] at hq; exact hq.symm)); intro bb hb; (first | (with_reducible have h9 : true = bb := hb; clear hb; subst h9) | (with_reducible have h9 : false = bb := hb; clear hb; subst h9) | skip))
    | ((with_reducible apply WRs_nil2); (focus (intro q hq; simp only [nilS, isSl, isConstNil, St.ev, St.get, lk, cond, Bool.and_true, Bool.and_self, tk_22, tk_23, tk_26, tk_27, tk_3, tk_30, tk_4, tk_46, tk_47, tk_9] at hq; exact hq.symm)); (focus (intro b q hq; simp only [St.setv, lset, cond, ltb] at hq; exact hq.symm)); intro bb hb; (first | (with_reducible have h9 : true = bb := hb; clear hb; subst h9) | (with_reducible have h9 : false = bb := hb; clear hb; subst h9) | skip))
    | ((with_reducible apply RUN_n); (focus (intro q hq; simp only [go_sem, Nat.reduceAdd, Nat.reduceSub, Nat.reduceMul] at hq; exact hq.symm)))
    | ((with_reducible apply RUN_gt); (focus (intro q hq; simp only [St.get, lk, cond] at hq; exact hq.symm)))
    | ((with_reducible apply RUN_gf); (focus (intro q hq; simp only [St.get, lk, cond] at hq; exact hq.symm)); (focus (intro q hq; simp only [St.setv, lset, cond, ltb] at hq; exact hq.symm)))
    | ((with_reducible apply RUN_gu); (focus (intro q hq; simp only [St.get, lk, cond] at hq; exact hq.symm)); (focus (intro q hq; simp only [St.setv, lset, cond, ltb] at hq; exact hq.symm)))
    | ((with_reducible apply RUN_gv); (focus (intro q hq; simp only [St.get, lk, cond] at hq; exact hq.symm)); (focus (intro q hq; simp only [St.setv, lset, cond, ltb] at hq; exact hq.symm)); intro e; (first | subst e | (simp only [Bool.not_eq_true', Bool.not_eq_false'] at e; subst e)); rotate_left; intro e; simp only [Bool.not_true, Bool.not_false, Bool.not_eq_true', Bool.not_eq_false'] at e; subst e)
    | ((with_reducible apply RUN_ct); (focus (intro q hq; simp only [St.ev, St.get, lk, cond, ofConst] at hq; exact hq.symm)))
    | ((with_reducible apply RUN_cf); (focus (intro q hq; simp only [St.ev, St.get, lk, cond, ofConst] at hq; exact hq.symm)))
    | ((with_reducible apply RUN_phi); (focus (intro q hq; simp only [St.ev, St.get, lk, cond, ofConst] at hq; exact hq.symm)); (focus (intro q hq; simp only [runP, go_sem, Nat.reduceAdd, Nat.reduceSub, Nat.reduceMul] at hq; exact hq.symm)); (focus (intro q hq; simp only [phiS, phiAV, phiD, dstsOf, app, lset, St.get, lk, cond, decide_true, if_true] at hq; exact hq.symm)))
    | ((with_reducible apply RUN_phi2); (focus (intro q hq; simp only [St.ev, St.get, lk, cond, ofConst] at hq; exact hq.symm)); (focus (intro q hq; simp only [runP, go_sem, Nat.reduceAdd, Nat.reduceSub, Nat.reduceMul] at hq; exact hq.symm)); (focus (intro q hq; simp only [runP, go_sem, Nat.reduceAdd, Nat.reduceSub, Nat.reduceMul] at hq; exact hq.symm)); (focus (intro q hq; simp only [phiS, phiAV, phiD, dstsOf, app, lset, St.get, lk, cond, decide_true, if_true] at hq; exact hq.symm)))
    | ((with_reducible apply RUN_pcallB); (focus (intro q hq; simp only [St.ev, St.get, lk, cond] at hq; exact hq.symm)); (focus (intro q hq; simp only [toDs, List.map, List.append, Array.toList, St.ev, St.get, lk, cond, ofConst, AV.toD, AV.toD.toDL, HAppend.hAppend, Append.append] at hq; exact hq.symm)); (focus (exact pick_con r u hr (by omega))); (focus (intro b q hq; simp only [St.setv, lset, cond, ltb] at hq; exact hq.symm)); intro bb hb; (first | (with_reducible have h9 : true = bb := hb; clear hb; subst h9) | (with_reducible have h9 : false = bb := hb; clear hb; subst h9) | skip))
    | ((with_reducible apply RUN_pcall); (focus (intro q hq; simp only [St.ev, St.get, lk, cond] at hq; exact hq.symm)); (focus (intro q hq; simp only [toDs, List.map, List.append, Array.toList, St.ev, St.get, lk, cond, ofConst, AV.toD, AV.toD.toDL, HAppend.hAppend, Append.append] at hq; exact hq.symm)); (focus (exact pick_con r u hr (by omega))); (focus (intro q hq; simp only [St.setv, lset, cond, ltb] at hq; exact hq.symm)))
    | ((with_reducible apply RUN_cv); (focus (intro q hq; simp only [St.ev, St.get, lk, cond, ofConst] at hq; exact hq.symm)); all_goals (intro e; first | cases e | (simp only [Bool.not_eq_true', Bool.not_eq_false'] at e; subst e) | skip)))
  · skip
    (with_reducible apply RUN_retD)
    (focus (intro q hq; simp only [aret, arets, St.get, lk, cond] at hq; exact hq.symm))
    (focus (intro q hq; simp only [AV.toD, AV.toD.toDL] at hq; exact hq.symm))
    (focus (intro q hq; simp only [keepL, memb, cond] at hq; exact hq.symm))
    (try refine ⟨?_, rfl⟩)
    (try with_reducible rfl)
    rw [if_pos rfl]
  · skip
    (with_reducible apply WC_claim 7 1000 1)
    (focus decide)
    (focus (simp only [St.get, lk, cond]))
    (focus (simp only [freshN, tmHas, hpHas, ldel, Ob.has, AV.has, AV.has.hasL, lk, cond, Bool.not_false, Bool.not_true, Bool.and_true, Bool.true_and, Bool.or_false, Bool.false_or]))
    (focus (intro q hq; simp only [lset, cond] at hq; exact hq.symm))
    refine WC_loopI (α := Nat) [1, 3, 7, 16, 17, 18] [3, 1000] (fun i => i ≤ u.length) (fun i => { n := 38, tm := [(1, .d (.list (r.map rg))), (3, .ptr 3 0), (7, .sl 1000 (ns (((List.range i).filter fun i => hasF r (i + 1) u.length).map fun i => u.getD i 0))), (16, .d (.list (ns u))), (17, .d (.int .i64 u.length)), (18, .d (.int .i64 i))], hp := [(3, .cells [.d (.str box), .d (.int .u32 valid), .d (.bool read), .d (.list (ns u)), .d (.list fl)]), (1000, .tail 1)] }) (fun i => u.length - i) rfl 0 (by intro q hq; simp only [St.keep, keepL, memb, cond, Bool.false_eq_true, if_false, if_true] at hq; subst hq; first | rfl | (simp only [if_true, ns_len, ns, List.length_map, List.range_zero, List.filter_nil, List.map_nil]; done) | (simp only [if_true, ns_len, ns, List.length_map, List.range_zero, List.filter_nil, List.map_nil]; rfl)) ?_ (fun i hI => ?_)
    · simp
    · skip
      repeat' (first
        | with_reducible refine WC_seq ?_
        | with_reducible refine WC_region ?_
        | with_reducible refine WC_skip ?_
        | with_reducible refine WC_ret ?_
        | with_reducible refine WC_exit ?_
        | with_reducible refine WC_block ?_
        | with_reducible refine thenQ_n ?_
        | with_reducible refine thenQ_r ?_
        | with_reducible refine thenQ_e ?_
        | with_reducible refine blockQ_n ?_
        | with_reducible refine blockQ_r ?_
        | with_reducible refine blockQ_e ?_
        | with_reducible refine blockQ_o rfl ?_
        | with_reducible refine WRs_nil ?_
        | ((with_reducible apply RUN_bool); (focus (intro q hq; simp only [go_sem, Nat.reduceAdd, Nat.reduceSub, Nat.reduceMul] at hq; exact hq.symm)); (focus (intro b q hq; simp only [St.setv, lset, cond, ltb] at hq; exact hq.symm)); intro bb hb; (first | (with_reducible have h9 : true = bb := hb; clear hb; subst h9) | (with_reducible have h9 : false = bb := hb; clear hb; subst h9) | skip))
        | ((with_reducible apply WRs_nil2); (focus (intro q hq; simp only [nilS, isSl, isConstNil, St.ev, St.get, lk, cond, Bool.and_true, Bool.and_self, tk_22, tk_23, tk_26, tk_27, tk_3, tk_30, tk_4, tk_46, tk_47, tk_9] at hq; exact hq.symm)); (focus (intro b q hq; simp only [St.setv, lset, cond, ltb] at hq; exact hq.symm)); intro bb hb; (first | (with_reducible have h9 : true = bb := hb; clear hb; subst h9) | (with_reducible have h9 : false = bb := hb; clear hb; subst h9) | skip))
        | ((with_reducible apply RUN_n); (focus (intro q hq; simp only [go_sem, Nat.reduceAdd, Nat.reduceSub, Nat.reduceMul] at hq; exact hq.symm)))
        | ((with_reducible apply RUN_gt); (focus (intro q hq; simp only [St.get, lk, cond] at hq; exact hq.symm)))
        | ((with_reducible apply RUN_gf); (focus (intro q hq; simp only [St.get, lk, cond] at hq; exact hq.symm)); (focus (intro q hq; simp only [St.setv, lset, cond, ltb] at hq; exact hq.symm)))
        | ((with_reducible apply RUN_gu); (focus (intro q hq; simp only [St.get, lk, cond] at hq; exact hq.symm)); (focus (intro q hq; simp only [St.setv, lset, cond, ltb] at hq; exact hq.symm)))
        | ((with_reducible apply RUN_gv); (focus (intro q hq; simp only [St.get, lk, cond] at hq; exact hq.symm)); (focus (intro q hq; simp only [St.setv, lset, cond, ltb] at hq; exact hq.symm)); intro e; (first | subst e | (simp only [Bool.not_eq_true', Bool.not_eq_false'] at e; subst e)); rotate_left; intro e; simp only [Bool.not_true, Bool.not_false, Bool.not_eq_true', Bool.not_eq_false'] at e; subst e)
        | ((with_reducible apply RUN_ct); (focus (intro q hq; simp only [St.ev, St.get, lk, cond, ofConst] at hq; exact hq.symm)))
        | ((with_reducible apply RUN_cf); (focus (intro q hq; simp only [St.ev, St.get, lk, cond, ofConst] at hq; exact hq.symm)))
        | ((with_reducible apply RUN_phi); (focus (intro q hq; simp only [St.ev, St.get, lk, cond, ofConst] at hq; exact hq.symm)); (focus (intro q hq; simp only [runP, go_sem, Nat.reduceAdd, Nat.reduceSub, Nat.reduceMul] at hq; exact hq.symm)); (focus (intro q hq; simp only [phiS, phiAV, phiD, dstsOf, app, lset, St.get, lk, cond, decide_true, if_true] at hq; exact hq.symm)))
        | ((with_reducible apply RUN_phi2); (focus (intro q hq; simp only [St.ev, St.get, lk, cond, ofConst] at hq; exact hq.symm)); (focus (intro q hq; simp only [runP, go_sem, Nat.reduceAdd, Nat.reduceSub, Nat.reduceMul] at hq; exact hq.symm)); (focus (intro q hq; simp only [runP, go_sem, Nat.reduceAdd, Nat.reduceSub, Nat.reduceMul] at hq; exact hq.symm)); (focus (intro q hq; simp only [phiS, phiAV, phiD, dstsOf, app, lset, St.get, lk, cond, decide_true, if_true] at hq; exact hq.symm)))
        | ((with_reducible apply RUN_cv); (focus (intro q hq; simp only [St.ev, St.get, lk, cond, ofConst] at hq; exact hq.symm)); all_goals (intro e; first | cases e | (simp only [Bool.not_eq_true', Bool.not_eq_false'] at e; subst e) | skip)))
      · have hi : i < u.length := by simpa using hb
        obtain ⟨p, hp⟩ : ∃ p, u[i]? = some p := ⟨_, List.getElem?_eq_getElem hi⟩
        have hw := w64_one (i := i) (by omega)
        have hu1 : IntKind.u32.wrap (((i + 1 : Nat) : Int)) = ((i + 1 : Nat) : Int) := wu32 (by omega) (by omega)
        have hu2 : IntKind.u32.wrap ((u.length : Int)) = (u.length : Int) := wu32 (by omega) (by omega)
        repeat' (first
          | with_reducible refine WC_seq ?_
          | with_reducible refine WC_region ?_
          | with_reducible refine WC_skip ?_
          | with_reducible refine WC_ret ?_
          | with_reducible refine WC_exit ?_
          | with_reducible refine WC_block ?_
          | with_reducible refine thenQ_n ?_
          | with_reducible refine thenQ_r ?_
          | with_reducible refine thenQ_e ?_
          | with_reducible refine blockQ_n ?_
          | with_reducible refine blockQ_r ?_
          | with_reducible refine blockQ_e ?_
          | with_reducible refine blockQ_o rfl ?_
          | with_reducible refine WRs_nil ?_
          | ((with_reducible apply RUN_bool); (focus (intro q hq; simp only [go_sem, Nat.reduceAdd, Nat.reduceSub, Nat.reduceMul, ns_len, ns_get, hp, hw, hu1, hu2, Option.map_some] at hq; exact hq.symm)); (focus (intro b q hq; simp only [St.setv, lset, cond, ltb] at hq; exact hq.symm)); intro bb hb; (first | (with_reducible have h9 : true = bb := hb; clear hb; subst h9) | (with_reducible have h9 : false = bb := hb; clear hb; subst h9) | skip))
          | ((with_reducible apply WRs_nil2); (focus (intro q hq; simp only [nilS, isSl, isConstNil, St.ev, St.get, lk, cond, Bool.and_true, Bool.and_self, tk_22, tk_23, tk_26, tk_27, tk_3, tk_30, tk_4, tk_46, tk_47, tk_9] at hq; exact hq.symm)); (focus (intro b q hq; simp only [St.setv, lset, cond, ltb] at hq; exact hq.symm)); intro bb hb; (first | (with_reducible have h9 : true = bb := hb; clear hb; subst h9) | (with_reducible have h9 : false = bb := hb; clear hb; subst h9) | skip))
          | ((with_reducible apply RUN_n); (focus (intro q hq; simp only [go_sem, Nat.reduceAdd, Nat.reduceSub, Nat.reduceMul, ns_len, ns_get, hp, hw, hu1, hu2, Option.map_some] at hq; exact hq.symm)))
          | ((with_reducible apply RUN_gt); (focus (intro q hq; simp only [St.get, lk, cond] at hq; exact hq.symm)))
          | ((with_reducible apply RUN_gf); (focus (intro q hq; simp only [St.get, lk, cond] at hq; exact hq.symm)); (focus (intro q hq; simp only [St.setv, lset, cond, ltb] at hq; exact hq.symm)))
          | ((with_reducible apply RUN_gu); (focus (intro q hq; simp only [St.get, lk, cond] at hq; exact hq.symm)); (focus (intro q hq; simp only [St.setv, lset, cond, ltb] at hq; exact hq.symm)))
          | ((with_reducible apply RUN_gv); (focus (intro q hq; simp only [St.get, lk, cond] at hq; exact hq.symm)); (focus (intro q hq; simp only [St.setv, lset, cond, ltb] at hq; exact hq.symm)); intro e; (first | subst e | (simp only [Bool.not_eq_true', Bool.not_eq_false'] at e; subst e)); rotate_left; intro e; simp only [Bool.not_true, Bool.not_false, Bool.not_eq_true', Bool.not_eq_false'] at e; subst e)
          | ((with_reducible apply RUN_ct); (focus (intro q hq; simp only [St.ev, St.get, lk, cond, ofConst] at hq; exact hq.symm)))
          | ((with_reducible apply RUN_cf); (focus (intro q hq; simp only [St.ev, St.get, lk, cond, ofConst] at hq; exact hq.symm)))
          | ((with_reducible apply RUN_phi); (focus (intro q hq; simp only [St.ev, St.get, lk, cond, ofConst] at hq; exact hq.symm)); (focus (intro q hq; simp only [runP, go_sem, Nat.reduceAdd, Nat.reduceSub, Nat.reduceMul, ns_len, ns_get, hp, hw, hu1, hu2, Option.map_some] at hq; exact hq.symm)); (focus (intro q hq; simp only [phiS, phiAV, phiD, dstsOf, app, lset, St.get, lk, cond, decide_true, if_true] at hq; exact hq.symm)))
          | ((with_reducible apply RUN_phi2); (focus (intro q hq; simp only [St.ev, St.get, lk, cond, ofConst] at hq; exact hq.symm)); (focus (intro q hq; simp only [runP, go_sem, Nat.reduceAdd, Nat.reduceSub, Nat.reduceMul, ns_len, ns_get, hp, hw, hu1, hu2, Option.map_some] at hq; exact hq.symm)); (focus (intro q hq; simp only [runP, go_sem, Nat.reduceAdd, Nat.reduceSub, Nat.reduceMul, ns_len, ns_get, hp, hw, hu1, hu2, Option.map_some] at hq; exact hq.symm)); (focus (intro q hq; simp only [phiS, phiAV, phiD, dstsOf, app, lset, St.get, lk, cond, decide_true, if_true] at hq; exact hq.symm)))
          | ((with_reducible apply RUN_pcallB); (focus (intro q hq; simp only [St.ev, St.get, lk, cond] at hq; exact hq.symm)); (focus (intro q hq; simp only [toDs, List.map, List.append, Array.toList, St.ev, St.get, lk, cond, ofConst, AV.toD, AV.toD.toDL, HAppend.hAppend, Append.append] at hq; exact hq.symm)); (focus (exact has_con r (i + 1) u.length hr)); (focus (intro b q hq; simp only [St.setv, lset, cond, ltb] at hq; exact hq.symm)); intro bb hb; (first | (with_reducible have h9 : true = bb := hb; clear hb; subst h9) | (with_reducible have h9 : false = bb := hb; clear hb; subst h9) | skip))
          | ((with_reducible apply RUN_pcall); (focus (intro q hq; simp only [St.ev, St.get, lk, cond] at hq; exact hq.symm)); (focus (intro q hq; simp only [toDs, List.map, List.append, Array.toList, St.ev, St.get, lk, cond, ofConst, AV.toD, AV.toD.toDL, HAppend.hAppend, Append.append] at hq; exact hq.symm)); (focus (exact has_con r (i + 1) u.length hr)); (focus (intro q hq; simp only [St.setv, lset, cond, ltb] at hq; exact hq.symm)))
          | ((with_reducible apply RUN_cv); (focus (intro q hq; simp only [St.ev, St.get, lk, cond, ofConst] at hq; exact hq.symm)); all_goals (intro e; first | cases e | (simp only [Bool.not_eq_true', Bool.not_eq_false'] at e; subst e) | skip)))
        · have hc : (((List.range i).filter fun i => hasF r (i + 1) u.length).map fun i => u.getD i 0).length ≤ i := by
            rw [List.length_map]; exact Nat.le_trans (List.length_filter_le _ _) (by simp)
          have hc : ((((List.range i).filter fun i => hasF r (i + 1) u.length).map fun i => u.getD i 0).length + 1) * 4 ≤ 140737488355328 := by omega
          have hc := eq_true hc
          repeat' (first
            | with_reducible refine WC_seq ?_
            | with_reducible refine WC_region ?_
            | with_reducible refine WC_skip ?_
            | with_reducible refine WC_ret ?_
            | with_reducible refine WC_exit ?_
            | with_reducible refine WC_block ?_
            | with_reducible refine thenQ_n ?_
            | with_reducible refine thenQ_r ?_
            | with_reducible refine thenQ_e ?_
            | with_reducible refine blockQ_n ?_
            | with_reducible refine blockQ_r ?_
            | with_reducible refine blockQ_e ?_
            | with_reducible refine blockQ_o rfl ?_
            | with_reducible refine WRs_nil ?_
            | ((with_reducible apply RUN_bool); (focus (intro q hq; simp only [go_sem, Nat.reduceAdd, Nat.reduceSub, Nat.reduceMul, ns_len, hc] at hq; exact hq.symm)); (focus (intro b q hq; simp only [St.setv, lset, cond, ltb] at hq; exact hq.symm)); intro bb hb; (first | (with_reducible have h9 : true = bb := hb; clear hb; subst h9) | (with_reducible have h9 : false = bb := hb; clear hb; subst h9) | skip))
            | ((with_reducible apply WRs_nil2); (focus (intro q hq; simp only [nilS, isSl, isConstNil, St.ev, St.get, lk, cond, Bool.and_true, Bool.and_self, tk_22, tk_23, tk_26, tk_27, tk_3, tk_30, tk_4, tk_46, tk_47, tk_9] at hq; exact hq.symm)); (focus (intro b q hq; simp only [St.setv, lset, cond, ltb] at hq; exact hq.symm)); intro bb hb; (first | (with_reducible have h9 : true = bb := hb; clear hb; subst h9) | (with_reducible have h9 : false = bb := hb; clear hb; subst h9) | skip))
            | ((with_reducible apply RUN_n); (focus (intro q hq; simp only [go_sem, Nat.reduceAdd, Nat.reduceSub, Nat.reduceMul, ns_len, hc] at hq; exact hq.symm)))
            | ((with_reducible apply RUN_gt); (focus (intro q hq; simp only [St.get, lk, cond] at hq; exact hq.symm)))
            | ((with_reducible apply RUN_gf); (focus (intro q hq; simp only [St.get, lk, cond] at hq; exact hq.symm)); (focus (intro q hq; simp only [St.setv, lset, cond, ltb] at hq; exact hq.symm)))
            | ((with_reducible apply RUN_gu); (focus (intro q hq; simp only [St.get, lk, cond] at hq; exact hq.symm)); (focus (intro q hq; simp only [St.setv, lset, cond, ltb] at hq; exact hq.symm)))
            | ((with_reducible apply RUN_gv); (focus (intro q hq; simp only [St.get, lk, cond] at hq; exact hq.symm)); (focus (intro q hq; simp only [St.setv, lset, cond, ltb] at hq; exact hq.symm)); intro e; (first | subst e | (simp only [Bool.not_eq_true', Bool.not_eq_false'] at e; subst e)); rotate_left; intro e; simp only [Bool.not_true, Bool.not_false, Bool.not_eq_true', Bool.not_eq_false'] at e; subst e)
            | ((with_reducible apply RUN_ct); (focus (intro q hq; simp only [St.ev, St.get, lk, cond, ofConst] at hq; exact hq.symm)))
            | ((with_reducible apply RUN_cf); (focus (intro q hq; simp only [St.ev, St.get, lk, cond, ofConst] at hq; exact hq.symm)))
            | ((with_reducible apply RUN_phi); (focus (intro q hq; simp only [St.ev, St.get, lk, cond, ofConst] at hq; exact hq.symm)); (focus (intro q hq; simp only [runP, go_sem, Nat.reduceAdd, Nat.reduceSub, Nat.reduceMul, ns_len, hc] at hq; exact hq.symm)); (focus (intro q hq; simp only [phiS, phiAV, phiD, dstsOf, app, lset, St.get, lk, cond, decide_true, if_true] at hq; exact hq.symm)))
            | ((with_reducible apply RUN_phi2); (focus (intro q hq; simp only [St.ev, St.get, lk, cond, ofConst] at hq; exact hq.symm)); (focus (intro q hq; simp only [runP, go_sem, Nat.reduceAdd, Nat.reduceSub, Nat.reduceMul, ns_len, hc] at hq; exact hq.symm)); (focus (intro q hq; simp only [runP, go_sem, Nat.reduceAdd, Nat.reduceSub, Nat.reduceMul, ns_len, hc] at hq; exact hq.symm)); (focus (intro q hq; simp only [phiS, phiAV, phiD, dstsOf, app, lset, St.get, lk, cond, decide_true, if_true] at hq; exact hq.symm)))
            | ((with_reducible apply RUN_cv); (focus (intro q hq; simp only [St.ev, St.get, lk, cond, ofConst] at hq; exact hq.symm)); all_goals (intro e; first | cases e | (simp only [Bool.not_eq_true', Bool.not_eq_false'] at e; subst e) | skip)))
          refine ⟨i + 1, by omega, by omega, ?_⟩
          rw [range_take hp]
          (intro q hq; simp only [St.keep, keepL, memb, cond, Bool.false_eq_true, if_false] at hq; subst hq; first | rfl | (simp only [hw, ns, List.map_append, hb, cond, List.map_cons, List.map_nil, List.append_nil]; done) | (simp only [hw, ns, List.map_append, hb, cond, List.map_cons, List.map_nil, List.append_nil]; rfl))
        · refine ⟨i + 1, by omega, by omega, ?_⟩
          rw [range_take hp]
          (intro q hq; simp only [St.keep, keepL, memb, cond, Bool.false_eq_true, if_false] at hq; subst hq; first | rfl | (simp only [hw, ns, List.map_append, hb, cond, List.map_cons, List.map_nil, List.append_nil]; done) | (simp only [hw, ns, List.map_append, hb, cond, List.map_cons, List.map_nil, List.append_nil]; rfl))
      · skip
        repeat' (first
          | with_reducible refine WC_seq ?_
          | with_reducible refine WC_region ?_
          | with_reducible refine WC_skip ?_
          | with_reducible refine WC_ret ?_
          | with_reducible refine WC_exit ?_
          | with_reducible refine WC_block ?_
          | with_reducible refine thenQ_n ?_
          | with_reducible refine thenQ_r ?_
          | with_reducible refine thenQ_e ?_
          | with_reducible refine blockQ_n ?_
          | with_reducible refine blockQ_r ?_
          | with_reducible refine blockQ_e ?_
          | with_reducible refine blockQ_o rfl ?_
          | with_reducible refine WRs_nil ?_
          | ((with_reducible apply RUN_bool); (focus (intro q hq; simp only [go_sem, Nat.reduceAdd, Nat.reduceSub, Nat.reduceMul] at hq; exact hq.symm)); (focus (intro b q hq; simp only [St.setv, lset, cond, ltb] at hq; exact hq.symm)); intro bb hb; (first | (with_reducible have h9 : true = bb := hb; clear hb; subst h9) | (with_reducible have h9 : false = bb := hb; clear hb; subst h9) | skip))
          | ((with_reducible apply WRs_nil2); (focus (intro q hq; simp only [nilS, isSl, isConstNil, St.ev, St.get, lk, cond, Bool.and_true, Bool.and_self, tk_22, tk_23, tk_26, tk_27, tk_3, tk_30, tk_4, tk_46, tk_47, tk_9] at hq; exact hq.symm)); (focus (intro b q hq; simp only [St.setv, lset, cond, ltb] at hq; exact hq.symm)); intro bb hb; (first | (with_reducible have h9 : true = bb := hb; clear hb; subst h9) | (with_reducible have h9 : false = bb := hb; clear hb; subst h9) | skip))
          | ((with_reducible apply RUN_n); (focus (intro q hq; simp only [go_sem, Nat.reduceAdd, Nat.reduceSub, Nat.reduceMul] at hq; exact hq.symm)))
          | ((with_reducible apply RUN_gt); (focus (intro q hq; simp only [St.get, lk, cond] at hq; exact hq.symm)))
          | ((with_reducible apply RUN_gf); (focus (intro q hq; simp only [St.get, lk, cond] at hq; exact hq.symm)); (focus (intro q hq; simp only [St.setv, lset, cond, ltb] at hq; exact hq.symm)))
          | ((with_reducible apply RUN_gu); (focus (intro q hq; simp only [St.get, lk, cond] at hq; exact hq.symm)); (focus (intro q hq; simp only [St.setv, lset, cond, ltb] at hq; exact hq.symm)))
          | ((with_reducible apply RUN_gv); (focus (intro q hq; simp only [St.get, lk, cond] at hq; exact hq.symm)); (focus (intro q hq; simp only [St.setv, lset, cond, ltb] at hq; exact hq.symm)); intro e; (first | subst e | (simp only [Bool.not_eq_true', Bool.not_eq_false'] at e; subst e)); rotate_left; intro e; simp only [Bool.not_true, Bool.not_false, Bool.not_eq_true', Bool.not_eq_false'] at e; subst e)
          | ((with_reducible apply RUN_ct); (focus (intro q hq; simp only [St.ev, St.get, lk, cond, ofConst] at hq; exact hq.symm)))
          | ((with_reducible apply RUN_cf); (focus (intro q hq; simp only [St.ev, St.get, lk, cond, ofConst] at hq; exact hq.symm)))
          | ((with_reducible apply RUN_phi); (focus (intro q hq; simp only [St.ev, St.get, lk, cond, ofConst] at hq; exact hq.symm)); (focus (intro q hq; simp only [runP, go_sem, Nat.reduceAdd, Nat.reduceSub, Nat.reduceMul] at hq; exact hq.symm)); (focus (intro q hq; simp only [phiS, phiAV, phiD, dstsOf, app, lset, St.get, lk, cond, decide_true, if_true] at hq; exact hq.symm)))
          | ((with_reducible apply RUN_phi2); (focus (intro q hq; simp only [St.ev, St.get, lk, cond, ofConst] at hq; exact hq.symm)); (focus (intro q hq; simp only [runP, go_sem, Nat.reduceAdd, Nat.reduceSub, Nat.reduceMul] at hq; exact hq.symm)); (focus (intro q hq; simp only [runP, go_sem, Nat.reduceAdd, Nat.reduceSub, Nat.reduceMul] at hq; exact hq.symm)); (focus (intro q hq; simp only [phiS, phiAV, phiD, dstsOf, app, lset, St.get, lk, cond, decide_true, if_true] at hq; exact hq.symm)))
          | ((with_reducible apply RUN_cv); (focus (intro q hq; simp only [St.ev, St.get, lk, cond, ofConst] at hq; exact hq.symm)); all_goals (intro e; first | cases e | (simp only [Bool.not_eq_true', Bool.not_eq_false'] at e; subst e) | skip)))
        (with_reducible apply RUN_retD)
        (focus (intro q hq; simp only [aret, arets, St.get, lk, cond] at hq; exact hq.symm))
        (focus (intro q hq; simp only [AV.toD, AV.toD.toDL] at hq; exact hq.symm))
        (focus (intro q hq; simp only [keepL, memb, cond] at hq; exact hq.symm))
        (try refine ⟨?_, rfl⟩)
        (try with_reducible rfl)
        have : i = u.length := by simp at hb; omega
        rw [this, if_neg (by simp)]
end Go.Proofs.Ythmiekppdhmbiaa
