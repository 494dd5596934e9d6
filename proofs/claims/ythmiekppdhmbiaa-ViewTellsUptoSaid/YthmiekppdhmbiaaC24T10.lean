import Derived.Test.YthmiekppdhmbiaaC24T9
set_option maxRecDepth 100000
set_option linter.unusedVariables false
set_option linter.unusedSimpArgs false
namespace Go.Proofs.Ythmiekppdhmbiaa
open Go.Wl
attribute [local irreducible] WRs WDs WC
attribute [local go_sem] Value.cells List.toList_toArray aappend apSrc abuildS abuildS.go List.all_cons List.all_nil St.untag AV.untag AV.untag.untagL Ob.untag tmMap hpMap aopS aop ob St.setv St.ev St.get lk lset cond ltb ofConst ofConst.ofConst0 ank apick afield aload AV.part AV.aggOf afieldV astore AV.cells? AV.one D.one splice aext aun alen AV.list aconv acv abuiltin AV.toD AV.toD.toDL List.map Option.map abin aint ashift astr isConstNil nilOf aindex2 aindexV2 aslice2 asliceL2 ibnd2 aminmax List.take List.drop List.append Nat.zero_add Nat.add_zero List.nil_append List.cons_append List.length_cons List.length_nil List.getElem?_cons_zero List.getElem?_cons_succ List.all_cons List.all_nil Bool.and_true Bool.true_and if_true Bool.not_true Bool.not_false Bool.false_or Bool.or_false St.nmOf freshC freshN anewN abox aalloc anew tmHas hpHas ldel Ob.has AV.has AV.has.hasL unbytes_u8 wd_int cl_int wd_bool cl_bool wd_str cl_str wd_nilp cl_nilp wd_nilfunc cl_nilfunc wd_nilif cl_nilif wd_list cl_list wd_cptr cl_cptr wd_iface cl_iface wd_func cl_func wd_agg cl_agg Int.toNat_natCast Int.natCast_nonneg true_and and_true decide_true decide_false Bool.cond_self Bool.false_eq_true if_false aopD aval acvP abval ag_22 ag_23 ag_25 ag_26 ag_27 ag_29 ag_3 ag_4 ag_43 ag_46 ag_47 ag_49 ag_9 apd_23 apd_26 apd_27 apd_46 apd_47 arr_23 arr_26 arr_27 arr_30 arr_46 arr_47 cvB_3_22 cvB_47_9 cvK_3_22 cvK_47_9 el_23 el_26 el_27 el_30 el_46 el_47 fd_25_0 fd_25_1 fd_25_2 fd_25_3 fd_25_4 fd_25_5 fd_29_0 fd_29_1 fd_29_2 fd_29_3 fd_29_4 fd_43_0 fd_43_1 fd_49_0 fd_49_1 fd_49_2 fd_49_3 fd_49_4 fd_49_5 fd_49_6 fd_49_7 fd_49_8 fp_25 fp_29 fp_43 fp_49 isStr_23 isStr_26 isStr_27 isStr_30 isStr_46 isStr_47 tk_22 tk_23 tk_26 tk_27 tk_3 tk_30 tk_4 tk_46 tk_47 tk_9 zv_22 zv_25 zv_29 zv_43 zv_46 zv_49 zv_5 zv_9
theorem range_getD (u : List Nat) : (List.range u.length).map (fun i => u.getD i 0) = u := by
  apply List.ext_getElem
  · simp
  · intro i h1 h2
    simp [List.getD_eq_getElem?_getD, h2]
theorem all_one (u : List Nat) : ((List.range u.length).filter fun i => hasF [(1, 0)] (i + 1) u.length).map (fun i => u.getD i 0) = u := by
  have : (List.range u.length).filter (fun i => hasF [(1, 0)] (i + 1) u.length) = List.range u.length := by
    rw [List.filter_eq_self]
    intro i hi
    rw [List.mem_range] at hi
    simp only [hasF, List.any_cons, List.any_nil, Bool.or_false, inR, if_neg (show ¬(1 = 0) by omega), if_true, Bool.and_eq_true, decide_eq_true_eq]
    omega
  rw [this, range_getD]
theorem rises_le {u : List Nat} (h : risesF u = true) : ∀ (j i : Nat), j < u.length → i ≤ j → u.getD i 0 ≤ u.getD j 0 := by
  simp only [risesF, List.all_eq_true, List.mem_range] at h
  intro j
  induction j with
  | zero => intro i h1 h2; simp [show i = 0 by omega]
  | succ j ih =>
    intro i h1 h2
    by_cases e : i = j + 1
    · rw [e]; exact Nat.le_refl _
    · refine Nat.le_trans (ih i (by omega) (by omega)) ?_
      have := h (j + 1) h1
      simp only [riseAt, List.getElem?_eq_getElem h1, Nat.add_sub_cancel, List.getElem?_eq_getElem (show j < u.length by omega), Bool.and_eq_true, Bool.or_eq_true, decide_eq_true_eq] at this
      rw [List.getD_eq_getElem?_getD, List.getD_eq_getElem?_getD, List.getElem?_eq_getElem h1, List.getElem?_eq_getElem (show j < u.length by omega)]
      simp only [Option.getD_some]
      omega
theorem rises_mem {u : List Nat} (h : risesF u = true) {n : Nat} (hn : n ∈ u) : 0 < n ∧ n ≤ u.getLastD 0 := by
  obtain ⟨i, hi, e⟩ := List.mem_iff_getElem.1 hn
  have h0 : u.getD i 0 = n := by rw [List.getD_eq_getElem?_getD, List.getElem?_eq_getElem hi]; exact e
  have h1 := rises_le h (u.length - 1) i (by omega) (by omega)
  have h2 : u.getD (u.length - 1) 0 = u.getLastD 0 := by
    rw [List.getD_eq_getElem?_getD, ← List.getLast?_eq_getElem?, List.getLastD_eq_getLast?]
  have h3 := h
  simp only [risesF, List.all_eq_true, List.mem_range] at h3
  have h3 := h3 i hi
  simp only [riseAt, List.getElem?_eq_getElem hi, Bool.and_eq_true, decide_eq_true_eq] at h3
  omega
theorem all_uid {u : List Nat} (h : risesF u = true) : (u.filter fun n => hasF [(1, 0)] n (u.getLastD 0)) = u := by
  rw [List.filter_eq_self]
  intro n hn
  have := rises_mem h hn
  simp only [hasF, List.any_cons, List.any_nil, Bool.or_false, inR, if_neg (show ¬(1 = 0) by omega), if_true, Bool.and_eq_true, decide_eq_true_eq]
  omega
theorem one_uid {u : List Nat} {i n : Nat} (h : u[i]? = some n) : ((List.range u.length).filter fun j => hasF [(i + 1, i + 1)] (j + 1) u.length).map (fun j => u.getD j 0) = [n] := by
  have hi := (List.getElem?_eq_some_iff.1 h).1
  have : (List.range u.length).filter (fun j => hasF [(i + 1, i + 1)] (j + 1) u.length) = [i] := by
    have e : (fun j => hasF [(i + 1, i + 1)] (j + 1) u.length) = fun j => j == i := by
      funext j
      rw [Bool.eq_iff_iff]
      simp only [hasF, List.any_cons, List.any_nil, Bool.or_false, inR, if_neg (show ¬(i + 1 = 0) by omega), Bool.and_eq_true, decide_eq_true_eq, beq_iff_eq]
      omega
    rw [e]
    generalize u.length = m at hi
    induction m with
    | zero => omega
    | succ m ih =>
      rw [List.range_succ, List.filter_append]
      by_cases hm : i < m
      · rw [ih hm]
        simp
        omega
      · have : i = m := by omega
        subst this
        have : (List.range i).filter (fun j => j == i) = [] := by
          rw [List.filter_eq_nil_iff]
          intro j hj
          rw [List.mem_range] at hj
          simp; omega
        rw [this]
        simp
  rw [this]
  simp [List.getD_eq_getElem?_getD, h]
theorem idx_cases (u : List Nat) (n : Nat) : (idxF u n = -1 ∧ n ∉ u) ∨ ∃ i, idxF u n = (i : Nat) ∧ u[i]? = some n := by
  unfold idxF
  split
  · rename_i i h
    rw [List.findIdx?_eq_some_iff_getElem] at h
    obtain ⟨h1, h2, _⟩ := h
    exact .inr ⟨i, rfl, by rw [List.getElem?_eq_getElem h1]; simpa using h2⟩
  · rename_i h
    rw [List.findIdx?_eq_none_iff] at h
    refine .inl ⟨rfl, fun hn => ?_⟩
    simpa using h n hn
theorem law_con (box : List UInt8) (valid : Nat) (read : Bool) (u : List Nat) (fl : List D) (uid : Nat) (hl : u.length < 4294967295) (hu : uid < 4294967296) : Pu Try.prog 4 [sight box valid read u fl, .int .u32 uid] (.bool true) := by
  have hR := rright_con box valid read u fl (by omega)
  simp only [sight] at hR
  refine law_o (by simp) ?_
  simp only [numb, List.map, Nat.zero_add, sight]
  repeat' (first
    | with_reducible refine WC_seq ?_
    | with_reducible refine WC_region ?_
    | with_reducible refine WC_skip ?_
    | with_reducible refine WC_ret ?_
    | with_reducible refine WC_exit ?_
    | with_reducible refine WC_block ?_
    | with_reducible refine thenQ_n ?_
    | with_reducible refine thenQ_r ?_
    | with_reducible refine thenQ_e ?_
    | with_reducible refine blockQ_n ?_
    | with_reducible refine blockQ_r ?_
    | with_reducible refine blockQ_e ?_
    | with_reducible refine blockQ_o rfl ?_
    | with_reducible refine WRs_nil ?_
    | ((with_reducible apply RUN_bool); (focus (intro q hq; simp only [go_sem, Nat.reduceAdd, Nat.reduceSub, Nat.reduceMul, ns_len] at hq; exact hq.symm)); (focus (intro b q hq; simp only [St.setv, lset, cond, ltb] at hq; exact hq.symm)); intro bb hb; (first | (with_reducible have h9 : true = bb := hb; clear hb; subst h9) | (with_reducible have h9 : false = bb := hb; clear hb; subst h9) | skip))
    | ((with_reducible apply WRs_nil2); (focus (intro q hq; simp only [nilS, isSl, isConstNil, St.ev, St.get, lk, cond, Bool.and_true, Bool.and_self, tk_22, tk_23, tk_26, tk_27, tk_3, tk_30, tk_4, tk_46, tk_47, tk_9] at hq; exact hq.symm)); (focus (intro b q hq; simp only [St.setv, lset, cond, ltb] at hq; exact hq.symm)); intro bb hb; (first | (with_reducible have h9 : true = bb := hb; clear hb; subst h9) | (with_reducible have h9 : false = bb := hb; clear hb; subst h9) | skip))
    | ((with_reducible apply RUN_n); (focus (intro q hq; simp only [go_sem, Nat.reduceAdd, Nat.reduceSub, Nat.reduceMul, ns_len] at hq; exact hq.symm)))
    | ((with_reducible apply RUN_gt); (focus (intro q hq; simp only [St.get, lk, cond] at hq; exact hq.symm)))
    | ((with_reducible apply WC_draw mx); (focus (intro q hq; simp only [objNames, List.map_cons, List.map_nil, List.filter_cons, List.filter_nil, isObj, lk, cond, if_true, if_false, Bool.false_eq_true] at hq; exact hq.symm)); (focus rfl))
    | with_reducible refine RUND_nil ?_
    | ((with_reducible apply RUND_bool); (focus (intro q hq; simp only [go_sem, Nat.reduceAdd, Nat.reduceSub, Nat.reduceMul, ns_len] at hq; exact hq.symm)); (focus (intro b q hq; simp only [St.setv, lset, cond, ltb] at hq; exact hq.symm)); intro bb hb; (first | (with_reducible have h9 : true = bb := hb; clear hb; subst h9) | (with_reducible have h9 : false = bb := hb; clear hb; subst h9) | skip))
    | ((with_reducible apply RUND_n); (focus (intro q hq; simp only [go_sem, Nat.reduceAdd, Nat.reduceSub, Nat.reduceMul, ns_len] at hq; exact hq.symm)))
    | ((with_reducible apply RUND_lbool); (focus (intro q hq; simp only [laOK, List.all_cons, List.all_nil, St.get, lk, cond, AV.refs, AV.refs.refsL, memb, List.append_nil, Bool.and_true, Bool.true_and, Bool.and_self] at hq; exact hq.symm)); (focus (intro q hq; simp only [go_sem, Nat.reduceAdd, Nat.reduceSub, Nat.reduceMul, ns_len] at hq; exact hq.symm)); (focus (intro b q hq; simp only [St.setv, lset, cond, ltb] at hq; exact hq.symm)); intro bb hb; (first | (with_reducible have h9 : true = bb := hb; clear hb; subst h9) | (with_reducible have h9 : false = bb := hb; clear hb; subst h9) | skip))
    | ((with_reducible apply RUND_l); (focus (intro q hq; simp only [laOK, List.all_cons, List.all_nil, St.get, lk, cond, AV.refs, AV.refs.refsL, memb, List.append_nil, Bool.and_true, Bool.true_and, Bool.and_self] at hq; exact hq.symm)); (focus (intro q hq; simp only [go_sem, Nat.reduceAdd, Nat.reduceSub, Nat.reduceMul, ns_len] at hq; exact hq.symm)))
    | ((with_reducible apply RUND_lm); (focus (intro q hq; simp only [laOK, List.all_cons, List.all_nil, St.get, lk, cond, AV.refs, AV.refs.refsL, memb, List.append_nil, Bool.and_true, Bool.true_and, Bool.and_self] at hq; exact hq.symm)); (focus (intro q hq; simp only [go_sem, Nat.reduceAdd, Nat.reduceSub, Nat.reduceMul, ns_len] at hq; exact hq.symm)))
    | ((with_reducible apply RUND_gt); (focus (intro q hq; simp only [St.get, lk, cond] at hq; exact hq.symm)))
    | ((with_reducible apply RUND_gf); (focus (intro q hq; simp only [sameOn, laOK, List.all_cons, List.all_nil, St.get, lk, lset, cond, AV.refs, AV.refs.refsL, memb, List.append_nil, Bool.and_true, Bool.true_and, Bool.and_self, and_self, and_true, skipOK, eq_self, forall_const, implies_true, false_implies, Bool.false_and, Bool.and_false, Bool.false_eq_true] at hq; subst hq; trivial)); (focus (intro q hq; simp only [St.get, lk, cond] at hq; exact hq.symm)); (focus (intro q hq; simp only [St.setv, lset, cond, ltb] at hq; exact hq.symm)))
    | ((with_reducible apply RUND_gu); (focus (intro q hq; simp only [sameOn, laOK, List.all_cons, List.all_nil, St.get, lk, lset, cond, AV.refs, AV.refs.refsL, memb, List.append_nil, Bool.and_true, Bool.true_and, Bool.and_self, and_self, and_true, skipOK, eq_self, forall_const, implies_true, false_implies, Bool.false_and, Bool.and_false, Bool.false_eq_true] at hq; subst hq; trivial)); (focus (intro q hq; simp only [St.get, lk, cond] at hq; exact hq.symm)); (focus (intro q hq; simp only [St.setv, lset, cond, ltb] at hq; exact hq.symm)))
    | ((with_reducible apply RUND_gv); rotate_left; (focus (intro q hq; simp only [St.get, lk, cond] at hq; exact hq.symm)); (focus (intro q hq; simp only [St.setv, lset, cond, ltb] at hq; exact hq.symm)); rotate_left; rotate_left; (focus (intro q hq; simp only [sameOn, laOK, List.all_cons, List.all_nil, St.get, lk, lset, cond, AV.refs, AV.refs.refsL, memb, List.append_nil, Bool.and_true, Bool.true_and, Bool.and_self, and_self, and_true, skipOK, eq_self, forall_const, implies_true, false_implies, Bool.false_and, Bool.and_false, Bool.false_eq_true] at hq; subst hq; trivial)); intro e; (first | subst e | (simp only [Bool.not_eq_true', Bool.not_eq_false'] at e; subst e)); rotate_left; intro e; simp only [Bool.not_true, Bool.not_false, Bool.not_eq_true', Bool.not_eq_false'] at e; subst e)
    | ((with_reducible apply RUND_ch); (focus (intro q hq; simp only [go_sem, Nat.reduceAdd, Nat.reduceSub, Nat.reduceMul, ns_len] at hq; exact hq.symm)); (focus (intro q hq; simp only [sameOn, laOK, List.all_cons, List.all_nil, St.get, lk, lset, cond, AV.refs, AV.refs.refsL, memb, List.append_nil, Bool.and_true, Bool.true_and, Bool.and_self, and_self, and_true] at hq; subst hq; trivial)); (focus (intro e; first | (cases e; done) | rfl)))
    | ((with_reducible apply RUN_gf); (focus (intro q hq; simp only [St.get, lk, cond] at hq; exact hq.symm)); (focus (intro q hq; simp only [St.setv, lset, cond, ltb] at hq; exact hq.symm)))
    | ((with_reducible apply RUN_gu); (focus (intro q hq; simp only [St.get, lk, cond] at hq; exact hq.symm)); (focus (intro q hq; simp only [St.setv, lset, cond, ltb] at hq; exact hq.symm)))
    | ((with_reducible apply RUN_gv); (focus (intro q hq; simp only [St.get, lk, cond] at hq; exact hq.symm)); (focus (intro q hq; simp only [St.setv, lset, cond, ltb] at hq; exact hq.symm)); intro e; (first | subst e | (simp only [Bool.not_eq_true', Bool.not_eq_false'] at e; subst e)); rotate_left; intro e; simp only [Bool.not_true, Bool.not_false, Bool.not_eq_true', Bool.not_eq_false'] at e; subst e)
    | ((with_reducible apply RUN_ct); (focus (intro q hq; simp only [St.ev, St.get, lk, cond, ofConst] at hq; exact hq.symm)))
    | ((with_reducible apply RUN_cf); (focus (intro q hq; simp only [St.ev, St.get, lk, cond, ofConst] at hq; exact hq.symm)))
    | ((with_reducible apply RUN_phi); (focus (intro q hq; simp only [St.ev, St.get, lk, cond, ofConst] at hq; exact hq.symm)); (focus (intro q hq; simp only [runP, go_sem, Nat.reduceAdd, Nat.reduceSub, Nat.reduceMul, ns_len] at hq; exact hq.symm)); (focus (intro q hq; simp only [phiS, phiAV, phiD, dstsOf, app, lset, St.get, lk, cond, decide_true, if_true] at hq; exact hq.symm)))
    | ((with_reducible apply RUN_phi2); (focus (intro q hq; simp only [St.ev, St.get, lk, cond, ofConst] at hq; exact hq.symm)); (focus (intro q hq; simp only [runP, go_sem, Nat.reduceAdd, Nat.reduceSub, Nat.reduceMul, ns_len] at hq; exact hq.symm)); (focus (intro q hq; simp only [runP, go_sem, Nat.reduceAdd, Nat.reduceSub, Nat.reduceMul, ns_len] at hq; exact hq.symm)); (focus (intro q hq; simp only [phiS, phiAV, phiD, dstsOf, app, lset, St.get, lk, cond, decide_true, if_true] at hq; exact hq.symm)))
    | ((with_reducible apply RUN_pcall); (focus (intro q hq; simp only [St.ev, St.get, lk, cond] at hq; exact hq.symm)); (focus (intro q hq; simp only [toDs, List.map, List.append, Array.toList, St.ev, St.get, lk, cond, ofConst, AV.toD, AV.toD.toDL, HAppend.hAppend, Append.append] at hq; exact hq.symm)); (focus (exact awake_con)); (focus (intro q hq; simp only [St.setv, lset, cond, ltb] at hq; exact hq.symm)))
    | ((with_reducible apply RUND_pcall); (focus (intro q hq; simp only [St.ev, St.get, lk, cond] at hq; exact hq.symm)); (focus (intro q hq; simp only [toDs, List.map, List.append, Array.toList, St.ev, St.get, lk, cond, ofConst, AV.toD, AV.toD.toDL, HAppend.hAppend, Append.append] at hq; exact hq.symm)); (focus (exact awake_con)); (focus (intro q hq; simp only [St.setv, lset, cond, ltb] at hq; exact hq.symm)); (focus (intro q hq; simp only [sameOn, laOK, List.all_cons, List.all_nil, St.get, lk, lset, cond, AV.refs, AV.refs.refsL, memb, List.append_nil, Bool.and_true, Bool.true_and, Bool.and_self, and_self, and_true] at hq; subst hq; trivial)))
    | ((with_reducible apply RUN_pcallB); (focus (intro q hq; simp only [St.ev, St.get, lk, cond] at hq; exact hq.symm)); (focus (intro q hq; simp only [toDs, List.map, List.append, Array.toList, St.ev, St.get, lk, cond, ofConst, AV.toD, AV.toD.toDL, HAppend.hAppend, Append.append] at hq; exact hq.symm)); (focus (exact hR)); (focus (intro b q hq; simp only [St.setv, lset, cond, ltb] at hq; exact hq.symm)); intro bb hb; (first | (with_reducible have h9 : true = bb := hb; clear hb; subst h9) | (with_reducible have h9 : false = bb := hb; clear hb; subst h9) | skip))
    | ((with_reducible apply RUND_pcallB); (focus (intro q hq; simp only [St.ev, St.get, lk, cond] at hq; exact hq.symm)); (focus (intro q hq; simp only [toDs, List.map, List.append, Array.toList, St.ev, St.get, lk, cond, ofConst, AV.toD, AV.toD.toDL, HAppend.hAppend, Append.append] at hq; exact hq.symm)); (focus (exact hR)); (focus (intro b q hq; simp only [St.setv, lset, cond, ltb] at hq; exact hq.symm)); (focus (intro b q hq; simp only [sameOn, laOK, List.all_cons, List.all_nil, St.get, lk, lset, cond, AV.refs, AV.refs.refsL, memb, List.append_nil, Bool.and_true, Bool.true_and, Bool.and_self, and_self, and_true] at hq; subst hq; trivial)); intro bb hb; (first | (with_reducible have h9 : true = bb := hb; clear hb; subst h9) | (with_reducible have h9 : false = bb := hb; clear hb; subst h9) | skip))
    | ((with_reducible apply RUN_pcall); (focus (intro q hq; simp only [St.ev, St.get, lk, cond] at hq; exact hq.symm)); (focus (intro q hq; simp only [toDs, List.map, List.append, Array.toList, St.ev, St.get, lk, cond, ofConst, AV.toD, AV.toD.toDL, HAppend.hAppend, Append.append] at hq; exact hq.symm)); (focus (exact hR)); (focus (intro q hq; simp only [St.setv, lset, cond, ltb] at hq; exact hq.symm)))
    | ((with_reducible apply RUND_pcall); (focus (intro q hq; simp only [St.ev, St.get, lk, cond] at hq; exact hq.symm)); (focus (intro q hq; simp only [toDs, List.map, List.append, Array.toList, St.ev, St.get, lk, cond, ofConst, AV.toD, AV.toD.toDL, HAppend.hAppend, Append.append] at hq; exact hq.symm)); (focus (exact hR)); (focus (intro q hq; simp only [St.setv, lset, cond, ltb] at hq; exact hq.symm)); (focus (intro q hq; simp only [sameOn, laOK, List.all_cons, List.all_nil, St.get, lk, lset, cond, AV.refs, AV.refs.refsL, memb, List.append_nil, Bool.and_true, Bool.true_and, Bool.and_self, and_self, and_true] at hq; subst hq; trivial)))
    | ((with_reducible apply RUN_cv); (focus (intro q hq; simp only [St.ev, St.get, lk, cond, ofConst] at hq; exact hq.symm)); all_goals (intro e; first | cases e | (simp only [Bool.not_eq_true', Bool.not_eq_false'] at e; subst e) | skip)))
  · skip
    (with_reducible apply RUN_ret)
    (focus (intro q hq; simp only [aret, arets, St.get, lk, cond] at hq; exact hq.symm))
    (focus (intro q hq; simp only [keepL, memb, cond] at hq; exact hq.symm))
    (try refine ⟨?_, rfl⟩)
    (try with_reducible rfl)
  · skip
    (with_reducible apply RUN_ret)
    (focus (intro q hq; simp only [aret, arets, St.get, lk, cond] at hq; exact hq.symm))
    (focus (intro q hq; simp only [keepL, memb, cond] at hq; exact hq.symm))
    (try refine ⟨?_, rfl⟩)
    (try with_reducible rfl)
  · rename_i hr
    simp only [Bool.and_eq_true, decide_eq_true_eq] at hr
    obtain ⟨hr, hfl⟩ := hr
    have hA := uids_con box valid read u fl [(1, 0)] false (by omega) (by simp)
    have hB := uids_con box valid read u fl [(1, 0)] true (by omega) (by simp)
    rw [if_neg (by simp), all_one] at hA
    rw [if_pos rfl, all_uid hr] at hB
    have hS := plain32_con u u (by omega)
    rw [decide_eq_true rfl] at hS
    simp only [sight, List.map_cons, List.map_nil, rg] at hA hB
    rcases idx_cases u uid with ⟨h0, hn⟩ | ⟨i, h0, hi⟩
    · have hN := number_con box valid read u fl uid (by omega)
      have hI := isin_con u uid (by omega)
      rw [h0] at hN
      rw [decide_eq_false hn] at hI
      simp only [sight] at hN
      repeat' (first
        | with_reducible refine WC_seq ?_
        | with_reducible refine WC_region ?_
        | with_reducible refine WC_skip ?_
        | with_reducible refine WC_ret ?_
        | with_reducible refine WC_exit ?_
        | with_reducible refine WC_block ?_
        | with_reducible refine thenQ_n ?_
        | with_reducible refine thenQ_r ?_
        | with_reducible refine thenQ_e ?_
        | with_reducible refine blockQ_n ?_
        | with_reducible refine blockQ_r ?_
        | with_reducible refine blockQ_e ?_
        | with_reducible refine blockQ_o rfl ?_
        | with_reducible refine WRs_nil ?_
        | ((with_reducible apply RUN_bool); (focus (intro q hq; simp only [go_sem, Nat.reduceAdd, Nat.reduceSub, Nat.reduceMul, ns_len] at hq; exact hq.symm)); (focus (intro b q hq; simp only [St.setv, lset, cond, ltb] at hq; exact hq.symm)); intro bb hb; (first | (with_reducible have h9 : true = bb := hb; clear hb; subst h9) | (with_reducible have h9 : false = bb := hb; clear hb; subst h9) | skip))
        | ((with_reducible apply WRs_nil2); (focus (intro q hq; simp only [nilS, isSl, isConstNil, St.ev, St.get, lk, cond, Bool.and_true, Bool.and_self, tk_22, tk_23, tk_26, tk_27, tk_3, tk_30, tk_4, tk_46, tk_47, tk_9] at hq; exact hq.symm)); (focus (intro b q hq; simp only [St.setv, lset, cond, ltb] at hq; exact hq.symm)); intro bb hb; (first | (with_reducible have h9 : true = bb := hb; clear hb; subst h9) | (with_reducible have h9 : false = bb := hb; clear hb; subst h9) | skip))
        | ((with_reducible apply RUN_n); (focus (intro q hq; simp only [go_sem, Nat.reduceAdd, Nat.reduceSub, Nat.reduceMul, ns_len] at hq; exact hq.symm)))
        | ((with_reducible apply RUN_gt); (focus (intro q hq; simp only [St.get, lk, cond] at hq; exact hq.symm)))
        | ((with_reducible apply WC_draw mx); (focus (intro q hq; simp only [objNames, List.map_cons, List.map_nil, List.filter_cons, List.filter_nil, isObj, lk, cond, if_true, if_false, Bool.false_eq_true] at hq; exact hq.symm)); (focus rfl))
        | with_reducible refine RUND_nil ?_
        | ((with_reducible apply RUND_bool); (focus (intro q hq; simp only [go_sem, Nat.reduceAdd, Nat.reduceSub, Nat.reduceMul, ns_len] at hq; exact hq.symm)); (focus (intro b q hq; simp only [St.setv, lset, cond, ltb] at hq; exact hq.symm)); intro bb hb; (first | (with_reducible have h9 : true = bb := hb; clear hb; subst h9) | (with_reducible have h9 : false = bb := hb; clear hb; subst h9) | skip))
        | ((with_reducible apply RUND_n); (focus (intro q hq; simp only [go_sem, Nat.reduceAdd, Nat.reduceSub, Nat.reduceMul, ns_len] at hq; exact hq.symm)))
        | ((with_reducible apply RUND_lbool); (focus (intro q hq; simp only [laOK, List.all_cons, List.all_nil, St.get, lk, cond, AV.refs, AV.refs.refsL, memb, List.append_nil, Bool.and_true, Bool.true_and, Bool.and_self] at hq; exact hq.symm)); (focus (intro q hq; simp only [go_sem, Nat.reduceAdd, Nat.reduceSub, Nat.reduceMul, ns_len] at hq; exact hq.symm)); (focus (intro b q hq; simp only [St.setv, lset, cond, ltb] at hq; exact hq.symm)); intro bb hb; (first | (with_reducible have h9 : true = bb := hb; clear hb; subst h9) | (with_reducible have h9 : false = bb := hb; clear hb; subst h9) | skip))
        | ((with_reducible apply RUND_l); (focus (intro q hq; simp only [laOK, List.all_cons, List.all_nil, St.get, lk, cond, AV.refs, AV.refs.refsL, memb, List.append_nil, Bool.and_true, Bool.true_and, Bool.and_self] at hq; exact hq.symm)); (focus (intro q hq; simp only [go_sem, Nat.reduceAdd, Nat.reduceSub, Nat.reduceMul, ns_len] at hq; exact hq.symm)))
        | ((with_reducible apply RUND_lm); (focus (intro q hq; simp only [laOK, List.all_cons, List.all_nil, St.get, lk, cond, AV.refs, AV.refs.refsL, memb, List.append_nil, Bool.and_true, Bool.true_and, Bool.and_self] at hq; exact hq.symm)); (focus (intro q hq; simp only [go_sem, Nat.reduceAdd, Nat.reduceSub, Nat.reduceMul, ns_len] at hq; exact hq.symm)))
        | ((with_reducible apply RUND_gt); (focus (intro q hq; simp only [St.get, lk, cond] at hq; exact hq.symm)))
        | ((with_reducible apply RUND_gf); (focus (intro q hq; simp only [sameOn, laOK, List.all_cons, List.all_nil, St.get, lk, lset, cond, AV.refs, AV.refs.refsL, memb, List.append_nil, Bool.and_true, Bool.true_and, Bool.and_self, and_self, and_true, skipOK, eq_self, forall_const, implies_true, false_implies, Bool.false_and, Bool.and_false, Bool.false_eq_true] at hq; subst hq; trivial)); (focus (intro q hq; simp only [St.get, lk, cond] at hq; exact hq.symm)); (focus (intro q hq; simp only [St.setv, lset, cond, ltb] at hq; exact hq.symm)))
        | ((with_reducible apply RUND_gu); (focus (intro q hq; simp only [sameOn, laOK, List.all_cons, List.all_nil, St.get, lk, lset, cond, AV.refs, AV.refs.refsL, memb, List.append_nil, Bool.and_true, Bool.true_and, Bool.and_self, and_self, and_true, skipOK, eq_self, forall_const, implies_true, false_implies, Bool.false_and, Bool.and_false, Bool.false_eq_true] at hq; subst hq; trivial)); (focus (intro q hq; simp only [St.get, lk, cond] at hq; exact hq.symm)); (focus (intro q hq; simp only [St.setv, lset, cond, ltb] at hq; exact hq.symm)))
        | ((with_reducible apply RUND_gv); rotate_left; (focus (intro q hq; simp only [St.get, lk, cond] at hq; exact hq.symm)); (focus (intro q hq; simp only [St.setv, lset, cond, ltb] at hq; exact hq.symm)); rotate_left; rotate_left; (focus (intro q hq; simp only [sameOn, laOK, List.all_cons, List.all_nil, St.get, lk, lset, cond, AV.refs, AV.refs.refsL, memb, List.append_nil, Bool.and_true, Bool.true_and, Bool.and_self, and_self, and_true, skipOK, eq_self, forall_const, implies_true, false_implies, Bool.false_and, Bool.and_false, Bool.false_eq_true] at hq; subst hq; trivial)); intro e; (first | subst e | (simp only [Bool.not_eq_true', Bool.not_eq_false'] at e; subst e)); rotate_left; intro e; simp only [Bool.not_true, Bool.not_false, Bool.not_eq_true', Bool.not_eq_false'] at e; subst e)
        | ((with_reducible apply RUND_ch); (focus (intro q hq; simp only [go_sem, Nat.reduceAdd, Nat.reduceSub, Nat.reduceMul, ns_len] at hq; exact hq.symm)); (focus (intro q hq; simp only [sameOn, laOK, List.all_cons, List.all_nil, St.get, lk, lset, cond, AV.refs, AV.refs.refsL, memb, List.append_nil, Bool.and_true, Bool.true_and, Bool.and_self, and_self, and_true] at hq; subst hq; trivial)); (focus (intro e; first | (cases e; done) | rfl)))
        | ((with_reducible apply RUN_gf); (focus (intro q hq; simp only [St.get, lk, cond] at hq; exact hq.symm)); (focus (intro q hq; simp only [St.setv, lset, cond, ltb] at hq; exact hq.symm)))
        | ((with_reducible apply RUN_gu); (focus (intro q hq; simp only [St.get, lk, cond] at hq; exact hq.symm)); (focus (intro q hq; simp only [St.setv, lset, cond, ltb] at hq; exact hq.symm)))
        | ((with_reducible apply RUN_gv); (focus (intro q hq; simp only [St.get, lk, cond] at hq; exact hq.symm)); (focus (intro q hq; simp only [St.setv, lset, cond, ltb] at hq; exact hq.symm)); intro e; (first | subst e | (simp only [Bool.not_eq_true', Bool.not_eq_false'] at e; subst e)); rotate_left; intro e; simp only [Bool.not_true, Bool.not_false, Bool.not_eq_true', Bool.not_eq_false'] at e; subst e)
        | ((with_reducible apply RUN_ct); (focus (intro q hq; simp only [St.ev, St.get, lk, cond, ofConst] at hq; exact hq.symm)))
        | ((with_reducible apply RUN_cf); (focus (intro q hq; simp only [St.ev, St.get, lk, cond, ofConst] at hq; exact hq.symm)))
        | ((with_reducible apply RUN_phi); (focus (intro q hq; simp only [St.ev, St.get, lk, cond, ofConst] at hq; exact hq.symm)); (focus (intro q hq; simp only [runP, go_sem, Nat.reduceAdd, Nat.reduceSub, Nat.reduceMul, ns_len] at hq; exact hq.symm)); (focus (intro q hq; simp only [phiS, phiAV, phiD, dstsOf, app, lset, St.get, lk, cond, decide_true, if_true] at hq; exact hq.symm)))
        | ((with_reducible apply RUN_phi2); (focus (intro q hq; simp only [St.ev, St.get, lk, cond, ofConst] at hq; exact hq.symm)); (focus (intro q hq; simp only [runP, go_sem, Nat.reduceAdd, Nat.reduceSub, Nat.reduceMul, ns_len] at hq; exact hq.symm)); (focus (intro q hq; simp only [runP, go_sem, Nat.reduceAdd, Nat.reduceSub, Nat.reduceMul, ns_len] at hq; exact hq.symm)); (focus (intro q hq; simp only [phiS, phiAV, phiD, dstsOf, app, lset, St.get, lk, cond, decide_true, if_true] at hq; exact hq.symm)))
        | ((with_reducible apply RUN_pcall); (focus (intro q hq; simp only [St.ev, St.get, lk, cond] at hq; exact hq.symm)); (focus (intro q hq; simp only [toDs, List.map, List.append, Array.toList, St.ev, St.get, lk, cond, ofConst, AV.toD, AV.toD.toDL, HAppend.hAppend, Append.append] at hq; exact hq.symm)); (focus (exact hA)); (focus (intro q hq; simp only [St.setv, lset, cond, ltb] at hq; exact hq.symm)))
        | ((with_reducible apply RUND_pcall); (focus (intro q hq; simp only [St.ev, St.get, lk, cond] at hq; exact hq.symm)); (focus (intro q hq; simp only [toDs, List.map, List.append, Array.toList, St.ev, St.get, lk, cond, ofConst, AV.toD, AV.toD.toDL, HAppend.hAppend, Append.append] at hq; exact hq.symm)); (focus (exact hA)); (focus (intro q hq; simp only [St.setv, lset, cond, ltb] at hq; exact hq.symm)); (focus (intro q hq; simp only [sameOn, laOK, List.all_cons, List.all_nil, St.get, lk, lset, cond, AV.refs, AV.refs.refsL, memb, List.append_nil, Bool.and_true, Bool.true_and, Bool.and_self, and_self, and_true] at hq; subst hq; trivial)))
        | ((with_reducible apply RUN_pcall); (focus (intro q hq; simp only [St.ev, St.get, lk, cond] at hq; exact hq.symm)); (focus (intro q hq; simp only [toDs, List.map, List.append, Array.toList, St.ev, St.get, lk, cond, ofConst, AV.toD, AV.toD.toDL, HAppend.hAppend, Append.append] at hq; exact hq.symm)); (focus (exact hB)); (focus (intro q hq; simp only [St.setv, lset, cond, ltb] at hq; exact hq.symm)))
        | ((with_reducible apply RUND_pcall); (focus (intro q hq; simp only [St.ev, St.get, lk, cond] at hq; exact hq.symm)); (focus (intro q hq; simp only [toDs, List.map, List.append, Array.toList, St.ev, St.get, lk, cond, ofConst, AV.toD, AV.toD.toDL, HAppend.hAppend, Append.append] at hq; exact hq.symm)); (focus (exact hB)); (focus (intro q hq; simp only [St.setv, lset, cond, ltb] at hq; exact hq.symm)); (focus (intro q hq; simp only [sameOn, laOK, List.all_cons, List.all_nil, St.get, lk, lset, cond, AV.refs, AV.refs.refsL, memb, List.append_nil, Bool.and_true, Bool.true_and, Bool.and_self, and_self, and_true] at hq; subst hq; trivial)))
        | ((with_reducible apply RUN_pcall); (focus (intro q hq; simp only [St.ev, St.get, lk, cond] at hq; exact hq.symm)); (focus (intro q hq; simp only [toDs, List.map, List.append, Array.toList, St.ev, St.get, lk, cond, ofConst, AV.toD, AV.toD.toDL, HAppend.hAppend, Append.append] at hq; exact hq.symm)); (focus (exact hS)); (focus (intro q hq; simp only [St.setv, lset, cond, ltb] at hq; exact hq.symm)))
        | ((with_reducible apply RUND_pcall); (focus (intro q hq; simp only [St.ev, St.get, lk, cond] at hq; exact hq.symm)); (focus (intro q hq; simp only [toDs, List.map, List.append, Array.toList, St.ev, St.get, lk, cond, ofConst, AV.toD, AV.toD.toDL, HAppend.hAppend, Append.append] at hq; exact hq.symm)); (focus (exact hS)); (focus (intro q hq; simp only [St.setv, lset, cond, ltb] at hq; exact hq.symm)); (focus (intro q hq; simp only [sameOn, laOK, List.all_cons, List.all_nil, St.get, lk, lset, cond, AV.refs, AV.refs.refsL, memb, List.append_nil, Bool.and_true, Bool.true_and, Bool.and_self, and_self, and_true] at hq; subst hq; trivial)))
        | ((with_reducible apply RUN_pcall); (focus (intro q hq; simp only [St.ev, St.get, lk, cond] at hq; exact hq.symm)); (focus (intro q hq; simp only [toDs, List.map, List.append, Array.toList, St.ev, St.get, lk, cond, ofConst, AV.toD, AV.toD.toDL, HAppend.hAppend, Append.append] at hq; exact hq.symm)); (focus (exact hN)); (focus (intro q hq; simp only [St.setv, lset, cond, ltb] at hq; exact hq.symm)))
        | ((with_reducible apply RUND_pcall); (focus (intro q hq; simp only [St.ev, St.get, lk, cond] at hq; exact hq.symm)); (focus (intro q hq; simp only [toDs, List.map, List.append, Array.toList, St.ev, St.get, lk, cond, ofConst, AV.toD, AV.toD.toDL, HAppend.hAppend, Append.append] at hq; exact hq.symm)); (focus (exact hN)); (focus (intro q hq; simp only [St.setv, lset, cond, ltb] at hq; exact hq.symm)); (focus (intro q hq; simp only [sameOn, laOK, List.all_cons, List.all_nil, St.get, lk, lset, cond, AV.refs, AV.refs.refsL, memb, List.append_nil, Bool.and_true, Bool.true_and, Bool.and_self, and_self, and_true] at hq; subst hq; trivial)))
        | ((with_reducible apply RUN_pcall); (focus (intro q hq; simp only [St.ev, St.get, lk, cond] at hq; exact hq.symm)); (focus (intro q hq; simp only [toDs, List.map, List.append, Array.toList, St.ev, St.get, lk, cond, ofConst, AV.toD, AV.toD.toDL, HAppend.hAppend, Append.append] at hq; exact hq.symm)); (focus (exact hI)); (focus (intro q hq; simp only [St.setv, lset, cond, ltb] at hq; exact hq.symm)))
        | ((with_reducible apply RUND_pcall); (focus (intro q hq; simp only [St.ev, St.get, lk, cond] at hq; exact hq.symm)); (focus (intro q hq; simp only [toDs, List.map, List.append, Array.toList, St.ev, St.get, lk, cond, ofConst, AV.toD, AV.toD.toDL, HAppend.hAppend, Append.append] at hq; exact hq.symm)); (focus (exact hI)); (focus (intro q hq; simp only [St.setv, lset, cond, ltb] at hq; exact hq.symm)); (focus (intro q hq; simp only [sameOn, laOK, List.all_cons, List.all_nil, St.get, lk, lset, cond, AV.refs, AV.refs.refsL, memb, List.append_nil, Bool.and_true, Bool.true_and, Bool.and_self, and_self, and_true] at hq; subst hq; trivial)))
        | ((with_reducible apply RUN_cv); (focus (intro q hq; simp only [St.ev, St.get, lk, cond, ofConst] at hq; exact hq.symm)); all_goals (intro e; first | cases e | (simp only [Bool.not_eq_true', Bool.not_eq_false'] at e; subst e) | skip)))
      · skip
        (with_reducible apply RUN_ret)
        (focus (intro q hq; simp only [aret, arets, St.get, lk, cond] at hq; exact hq.symm))
        (focus (intro q hq; simp only [keepL, memb, cond] at hq; exact hq.symm))
        (try refine ⟨?_, rfl⟩)
        (try with_reducible rfl)
      · exact absurd hb (by decide)
    · have hN := number_con box valid read u fl uid (by omega)
      have hO := uids_con box valid read u fl [(i + 1, i + 1)] false (by omega) (by simp)
      rw [if_neg (by simp), one_uid hi] at hO
      rw [h0] at hN
      simp only [sight, List.map_cons, List.map_nil, rg] at hN hO
      have hiu := (List.getElem?_eq_some_iff.1 hi).1
      have hw : IntKind.u32.wrap ((i : Int) + 1) = ((i + 1 : Nat) : Int) := wu32 (n := (i : Int) + 1) (by omega) (by omega)
      have hw2 : IntKind.i64.wrap ((i : Int) + 1 - 1) = (i : Int) := by rw [w64 (by omega) (by omega)]; omega
      repeat' (first
        | with_reducible refine WC_seq ?_
        | with_reducible refine WC_region ?_
        | with_reducible refine WC_skip ?_
        | with_reducible refine WC_ret ?_
        | with_reducible refine WC_exit ?_
        | with_reducible refine WC_block ?_
        | with_reducible refine thenQ_n ?_
        | with_reducible refine thenQ_r ?_
        | with_reducible refine thenQ_e ?_
        | with_reducible refine blockQ_n ?_
        | with_reducible refine blockQ_r ?_
        | with_reducible refine blockQ_e ?_
        | with_reducible refine blockQ_o rfl ?_
        | with_reducible refine WRs_nil ?_
        | ((with_reducible apply RUN_bool); (focus (intro q hq; simp only [go_sem, Nat.reduceAdd, Nat.reduceSub, Nat.reduceMul, ns_len, ns_get, hi, hw, hw2, Option.map_some] at hq; exact hq.symm)); (focus (intro b q hq; simp only [St.setv, lset, cond, ltb] at hq; exact hq.symm)); intro bb hb; (first | (with_reducible have h9 : true = bb := hb; clear hb; subst h9) | (with_reducible have h9 : false = bb := hb; clear hb; subst h9) | skip))
        | ((with_reducible apply WRs_nil2); (focus (intro q hq; simp only [nilS, isSl, isConstNil, St.ev, St.get, lk, cond, Bool.and_true, Bool.and_self, tk_22, tk_23, tk_26, tk_27, tk_3, tk_30, tk_4, tk_46, tk_47, tk_9] at hq; exact hq.symm)); (focus (intro b q hq; simp only [St.setv, lset, cond, ltb] at hq; exact hq.symm)); intro bb hb; (first | (with_reducible have h9 : true = bb := hb; clear hb; subst h9) | (with_reducible have h9 : false = bb := hb; clear hb; subst h9) | skip))
        | ((with_reducible apply RUN_n); (focus (intro q hq; simp only [go_sem, Nat.reduceAdd, Nat.reduceSub, Nat.reduceMul, ns_len, ns_get, hi, hw, hw2, Option.map_some] at hq; exact hq.symm)))
        | ((with_reducible apply RUN_gt); (focus (intro q hq; simp only [St.get, lk, cond] at hq; exact hq.symm)))
        | ((with_reducible apply WC_draw mx); (focus (intro q hq; simp only [objNames, List.map_cons, List.map_nil, List.filter_cons, List.filter_nil, isObj, lk, cond, if_true, if_false, Bool.false_eq_true] at hq; exact hq.symm)); (focus rfl))
        | with_reducible refine RUND_nil ?_
        | ((with_reducible apply RUND_bool); (focus (intro q hq; simp only [go_sem, Nat.reduceAdd, Nat.reduceSub, Nat.reduceMul, ns_len, ns_get, hi, hw, hw2, Option.map_some] at hq; exact hq.symm)); (focus (intro b q hq; simp only [St.setv, lset, cond, ltb] at hq; exact hq.symm)); intro bb hb; (first | (with_reducible have h9 : true = bb := hb; clear hb; subst h9) | (with_reducible have h9 : false = bb := hb; clear hb; subst h9) | skip))
        | ((with_reducible apply RUND_n); (focus (intro q hq; simp only [go_sem, Nat.reduceAdd, Nat.reduceSub, Nat.reduceMul, ns_len, ns_get, hi, hw, hw2, Option.map_some] at hq; exact hq.symm)))
        | ((with_reducible apply RUND_lbool); (focus (intro q hq; simp only [laOK, List.all_cons, List.all_nil, St.get, lk, cond, AV.refs, AV.refs.refsL, memb, List.append_nil, Bool.and_true, Bool.true_and, Bool.and_self] at hq; exact hq.symm)); (focus (intro q hq; simp only [go_sem, Nat.reduceAdd, Nat.reduceSub, Nat.reduceMul, ns_len, ns_get, hi, hw, hw2, Option.map_some] at hq; exact hq.symm)); (focus (intro b q hq; simp only [St.setv, lset, cond, ltb] at hq; exact hq.symm)); intro bb hb; (first | (with_reducible have h9 : true = bb := hb; clear hb; subst h9) | (with_reducible have h9 : false = bb := hb; clear hb; subst h9) | skip))
        | ((with_reducible apply RUND_l); (focus (intro q hq; simp only [laOK, List.all_cons, List.all_nil, St.get, lk, cond, AV.refs, AV.refs.refsL, memb, List.append_nil, Bool.and_true, Bool.true_and, Bool.and_self] at hq; exact hq.symm)); (focus (intro q hq; simp only [go_sem, Nat.reduceAdd, Nat.reduceSub, Nat.reduceMul, ns_len, ns_get, hi, hw, hw2, Option.map_some] at hq; exact hq.symm)))
        | ((with_reducible apply RUND_lm); (focus (intro q hq; simp only [laOK, List.all_cons, List.all_nil, St.get, lk, cond, AV.refs, AV.refs.refsL, memb, List.append_nil, Bool.and_true, Bool.true_and, Bool.and_self] at hq; exact hq.symm)); (focus (intro q hq; simp only [go_sem, Nat.reduceAdd, Nat.reduceSub, Nat.reduceMul, ns_len, ns_get, hi, hw, hw2, Option.map_some] at hq; exact hq.symm)))
        | ((with_reducible apply RUND_gt); (focus (intro q hq; simp only [St.get, lk, cond] at hq; exact hq.symm)))
        | ((with_reducible apply RUND_gf); (focus (intro q hq; simp only [sameOn, laOK, List.all_cons, List.all_nil, St.get, lk, lset, cond, AV.refs, AV.refs.refsL, memb, List.append_nil, Bool.and_true, Bool.true_and, Bool.and_self, and_self, and_true, skipOK, eq_self, forall_const, implies_true, false_implies, Bool.false_and, Bool.and_false, Bool.false_eq_true] at hq; subst hq; trivial)); (focus (intro q hq; simp only [St.get, lk, cond] at hq; exact hq.symm)); (focus (intro q hq; simp only [St.setv, lset, cond, ltb] at hq; exact hq.symm)))
        | ((with_reducible apply RUND_gu); (focus (intro q hq; simp only [sameOn, laOK, List.all_cons, List.all_nil, St.get, lk, lset, cond, AV.refs, AV.refs.refsL, memb, List.append_nil, Bool.and_true, Bool.true_and, Bool.and_self, and_self, and_true, skipOK, eq_self, forall_const, implies_true, false_implies, Bool.false_and, Bool.and_false, Bool.false_eq_true] at hq; subst hq; trivial)); (focus (intro q hq; simp only [St.get, lk, cond] at hq; exact hq.symm)); (focus (intro q hq; simp only [St.setv, lset, cond, ltb] at hq; exact hq.symm)))
        | ((with_reducible apply RUND_gv); rotate_left; (focus (intro q hq; simp only [St.get, lk, cond] at hq; exact hq.symm)); (focus (intro q hq; simp only [St.setv, lset, cond, ltb] at hq; exact hq.symm)); rotate_left; rotate_left; (focus (intro q hq; simp only [sameOn, laOK, List.all_cons, List.all_nil, St.get, lk, lset, cond, AV.refs, AV.refs.refsL, memb, List.append_nil, Bool.and_true, Bool.true_and, Bool.and_self, and_self, and_true, skipOK, eq_self, forall_const, implies_true, false_implies, Bool.false_and, Bool.and_false, Bool.false_eq_true] at hq; subst hq; trivial)); intro e; (first | subst e | (simp only [Bool.not_eq_true', Bool.not_eq_false'] at e; subst e)); rotate_left; intro e; simp only [Bool.not_true, Bool.not_false, Bool.not_eq_true', Bool.not_eq_false'] at e; subst e)
        | ((with_reducible apply RUND_ch); (focus (intro q hq; simp only [go_sem, Nat.reduceAdd, Nat.reduceSub, Nat.reduceMul, ns_len, ns_get, hi, hw, hw2, Option.map_some] at hq; exact hq.symm)); (focus (intro q hq; simp only [sameOn, laOK, List.all_cons, List.all_nil, St.get, lk, lset, cond, AV.refs, AV.refs.refsL, memb, List.append_nil, Bool.and_true, Bool.true_and, Bool.and_self, and_self, and_true] at hq; subst hq; trivial)); (focus (intro e; first | (cases e; done) | rfl)))
        | ((with_reducible apply RUN_gf); (focus (intro q hq; simp only [St.get, lk, cond] at hq; exact hq.symm)); (focus (intro q hq; simp only [St.setv, lset, cond, ltb] at hq; exact hq.symm)))
        | ((with_reducible apply RUN_gu); (focus (intro q hq; simp only [St.get, lk, cond] at hq; exact hq.symm)); (focus (intro q hq; simp only [St.setv, lset, cond, ltb] at hq; exact hq.symm)))
        | ((with_reducible apply RUN_gv); (focus (intro q hq; simp only [St.get, lk, cond] at hq; exact hq.symm)); (focus (intro q hq; simp only [St.setv, lset, cond, ltb] at hq; exact hq.symm)); intro e; (first | subst e | (simp only [Bool.not_eq_true', Bool.not_eq_false'] at e; subst e)); rotate_left; intro e; simp only [Bool.not_true, Bool.not_false, Bool.not_eq_true', Bool.not_eq_false'] at e; subst e)
        | ((with_reducible apply RUN_ct); (focus (intro q hq; simp only [St.ev, St.get, lk, cond, ofConst] at hq; exact hq.symm)))
        | ((with_reducible apply RUN_cf); (focus (intro q hq; simp only [St.ev, St.get, lk, cond, ofConst] at hq; exact hq.symm)))
        | ((with_reducible apply RUN_phi); (focus (intro q hq; simp only [St.ev, St.get, lk, cond, ofConst] at hq; exact hq.symm)); (focus (intro q hq; simp only [runP, go_sem, Nat.reduceAdd, Nat.reduceSub, Nat.reduceMul, ns_len, ns_get, hi, hw, hw2, Option.map_some] at hq; exact hq.symm)); (focus (intro q hq; simp only [phiS, phiAV, phiD, dstsOf, app, lset, St.get, lk, cond, decide_true, if_true] at hq; exact hq.symm)))
        | ((with_reducible apply RUN_phi2); (focus (intro q hq; simp only [St.ev, St.get, lk, cond, ofConst] at hq; exact hq.symm)); (focus (intro q hq; simp only [runP, go_sem, Nat.reduceAdd, Nat.reduceSub, Nat.reduceMul, ns_len, ns_get, hi, hw, hw2, Option.map_some] at hq; exact hq.symm)); (focus (intro q hq; simp only [runP, go_sem, Nat.reduceAdd, Nat.reduceSub, Nat.reduceMul, ns_len, ns_get, hi, hw, hw2, Option.map_some] at hq; exact hq.symm)); (focus (intro q hq; simp only [phiS, phiAV, phiD, dstsOf, app, lset, St.get, lk, cond, decide_true, if_true] at hq; exact hq.symm)))
        | ((with_reducible apply RUN_pcall); (focus (intro q hq; simp only [St.ev, St.get, lk, cond] at hq; exact hq.symm)); (focus (intro q hq; simp only [toDs, List.map, List.append, Array.toList, St.ev, St.get, lk, cond, ofConst, AV.toD, AV.toD.toDL, HAppend.hAppend, Append.append] at hq; exact hq.symm)); (focus (exact hA)); (focus (intro q hq; simp only [St.setv, lset, cond, ltb] at hq; exact hq.symm)))
        | ((with_reducible apply RUND_pcall); (focus (intro q hq; simp only [St.ev, St.get, lk, cond] at hq; exact hq.symm)); (focus (intro q hq; simp only [toDs, List.map, List.append, Array.toList, St.ev, St.get, lk, cond, ofConst, AV.toD, AV.toD.toDL, HAppend.hAppend, Append.append] at hq; exact hq.symm)); (focus (exact hA)); (focus (intro q hq; simp only [St.setv, lset, cond, ltb] at hq; exact hq.symm)); (focus (intro q hq; simp only [sameOn, laOK, List.all_cons, List.all_nil, St.get, lk, lset, cond, AV.refs, AV.refs.refsL, memb, List.append_nil, Bool.and_true, Bool.true_and, Bool.and_self, and_self, and_true] at hq; subst hq; trivial)))
        | ((with_reducible apply RUN_pcall); (focus (intro q hq; simp only [St.ev, St.get, lk, cond] at hq; exact hq.symm)); (focus (intro q hq; simp only [toDs, List.map, List.append, Array.toList, St.ev, St.get, lk, cond, ofConst, AV.toD, AV.toD.toDL, HAppend.hAppend, Append.append] at hq; exact hq.symm)); (focus (exact hB)); (focus (intro q hq; simp only [St.setv, lset, cond, ltb] at hq; exact hq.symm)))
        | ((with_reducible apply RUND_pcall); (focus (intro q hq; simp only [St.ev, St.get, lk, cond] at hq; exact hq.symm)); (focus (intro q hq; simp only [toDs, List.map, List.append, Array.toList, St.ev, St.get, lk, cond, ofConst, AV.toD, AV.toD.toDL, HAppend.hAppend, Append.append] at hq; exact hq.symm)); (focus (exact hB)); (focus (intro q hq; simp only [St.setv, lset, cond, ltb] at hq; exact hq.symm)); (focus (intro q hq; simp only [sameOn, laOK, List.all_cons, List.all_nil, St.get, lk, lset, cond, AV.refs, AV.refs.refsL, memb, List.append_nil, Bool.and_true, Bool.true_and, Bool.and_self, and_self, and_true] at hq; subst hq; trivial)))
        | ((with_reducible apply RUN_pcall); (focus (intro q hq; simp only [St.ev, St.get, lk, cond] at hq; exact hq.symm)); (focus (intro q hq; simp only [toDs, List.map, List.append, Array.toList, St.ev, St.get, lk, cond, ofConst, AV.toD, AV.toD.toDL, HAppend.hAppend, Append.append] at hq; exact hq.symm)); (focus (exact hS)); (focus (intro q hq; simp only [St.setv, lset, cond, ltb] at hq; exact hq.symm)))
        | ((with_reducible apply RUND_pcall); (focus (intro q hq; simp only [St.ev, St.get, lk, cond] at hq; exact hq.symm)); (focus (intro q hq; simp only [toDs, List.map, List.append, Array.toList, St.ev, St.get, lk, cond, ofConst, AV.toD, AV.toD.toDL, HAppend.hAppend, Append.append] at hq; exact hq.symm)); (focus (exact hS)); (focus (intro q hq; simp only [St.setv, lset, cond, ltb] at hq; exact hq.symm)); (focus (intro q hq; simp only [sameOn, laOK, List.all_cons, List.all_nil, St.get, lk, lset, cond, AV.refs, AV.refs.refsL, memb, List.append_nil, Bool.and_true, Bool.true_and, Bool.and_self, and_self, and_true] at hq; subst hq; trivial)))
        | ((with_reducible apply RUN_pcall); (focus (intro q hq; simp only [St.ev, St.get, lk, cond] at hq; exact hq.symm)); (focus (intro q hq; simp only [toDs, List.map, List.append, Array.toList, St.ev, St.get, lk, cond, ofConst, AV.toD, AV.toD.toDL, HAppend.hAppend, Append.append] at hq; exact hq.symm)); (focus (exact hN)); (focus (intro q hq; simp only [St.setv, lset, cond, ltb] at hq; exact hq.symm)))
        | ((with_reducible apply RUND_pcall); (focus (intro q hq; simp only [St.ev, St.get, lk, cond] at hq; exact hq.symm)); (focus (intro q hq; simp only [toDs, List.map, List.append, Array.toList, St.ev, St.get, lk, cond, ofConst, AV.toD, AV.toD.toDL, HAppend.hAppend, Append.append] at hq; exact hq.symm)); (focus (exact hN)); (focus (intro q hq; simp only [St.setv, lset, cond, ltb] at hq; exact hq.symm)); (focus (intro q hq; simp only [sameOn, laOK, List.all_cons, List.all_nil, St.get, lk, lset, cond, AV.refs, AV.refs.refsL, memb, List.append_nil, Bool.and_true, Bool.true_and, Bool.and_self, and_self, and_true] at hq; subst hq; trivial)))
        | ((with_reducible apply RUN_pcall); (focus (intro q hq; simp only [St.ev, St.get, lk, cond] at hq; exact hq.symm)); (focus (intro q hq; simp only [toDs, List.map, List.append, Array.toList, St.ev, St.get, lk, cond, ofConst, AV.toD, AV.toD.toDL, HAppend.hAppend, Append.append] at hq; exact hq.symm)); (focus (exact hO)); (focus (intro q hq; simp only [St.setv, lset, cond, ltb] at hq; exact hq.symm)))
        | ((with_reducible apply RUND_pcall); (focus (intro q hq; simp only [St.ev, St.get, lk, cond] at hq; exact hq.symm)); (focus (intro q hq; simp only [toDs, List.map, List.append, Array.toList, St.ev, St.get, lk, cond, ofConst, AV.toD, AV.toD.toDL, HAppend.hAppend, Append.append] at hq; exact hq.symm)); (focus (exact hO)); (focus (intro q hq; simp only [St.setv, lset, cond, ltb] at hq; exact hq.symm)); (focus (intro q hq; simp only [sameOn, laOK, List.all_cons, List.all_nil, St.get, lk, lset, cond, AV.refs, AV.refs.refsL, memb, List.append_nil, Bool.and_true, Bool.true_and, Bool.and_self, and_self, and_true] at hq; subst hq; trivial)))
        | ((with_reducible apply RUN_cv); (focus (intro q hq; simp only [St.ev, St.get, lk, cond, ofConst] at hq; exact hq.symm)); all_goals (intro e; first | cases e | (simp only [Bool.not_eq_true', Bool.not_eq_false'] at e; subst e) | skip)))
      · exfalso; simp at hb; omega
      · exact absurd hb (by decide)
      · simp at hb
      · skip
        (with_reducible apply RUN_ret)
        (focus (intro q hq; simp only [aret, arets, St.get, lk, cond] at hq; exact hq.symm))
        (focus (intro q hq; simp only [keepL, memb, cond] at hq; exact hq.symm))
        (try refine ⟨?_, rfl⟩)
        (try with_reducible rfl)
        rw [← hb]; simp
end Go.Proofs.Ythmiekppdhmbiaa
