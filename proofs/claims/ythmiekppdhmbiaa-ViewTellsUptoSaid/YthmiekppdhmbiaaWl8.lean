/- Values and memory told without addresses: appending. -/
import Derived.Test.YthmiekppdhmbiaaWl7
import Derived.Laws.Append
import Derived.Laws.AppendOwn
set_option linter.unusedVariables false
set_option linter.unusedSimpArgs false
namespace Go.Wl
variable {P : Program}

/-- The cells of a list in memory, one behind the other. -/
theorem rep_cells {S : Nat → Nat → Prop} {w : World} {a : Option Addr} {len cap k : Nat} {xs : List D} (h : Rep S w (.slice a len cap) (.list xs)) (hk : ∀ x ∈ xs, x.width = k) (hk0 : 0 < k) :
    ∃ f : Nat → Value, (∀ q, q < len * k → ∃ b o, a = some ⟨b, o, none⟩ ∧ S b (o + q) ∧ w.cell? ⟨b, o + q, none⟩ = some (f q)) ∧
      ∀ i x j c, xs[i]? = some x → x.cells[j]? = some c → Rep S w (f (i * k + j)) c := by
  cases h with
  | list sz vals hl hc hs hw hm hr =>
    refine ⟨fun q => vals (q / k) (q % k), fun q hq => ?_, fun i x j c hi hj => ?_⟩
    · have hi : q / k < len := (Nat.div_lt_iff_lt_mul hk0).2 hq
      have hj : q % k < k := Nat.mod_lt _ hk0
      have hx : xs[q / k]? = some xs[q / k] := by simp [hl, hi]
      have hwx : (xs[q / k]).cells.length = k := hk _ (List.getElem_mem _)
      have hsz : sz = k := (hw _ (List.getElem_mem _)).symm.trans hwx
      have hc' : (xs[q / k]).cells[q % k]? = some ((xs[q / k]).cells[q % k]) := by simp [hwx, hj]
      obtain ⟨b, o, ha⟩ := hs (Nat.lt_of_le_of_lt (Nat.zero_le _) (Nat.lt_of_lt_of_le hi hc))
      have := hm _ _ _ _ b o hx hc' ha
      rw [hsz, Nat.div_add_mod'] at this
      exact ⟨b, o, ha, this⟩
    · have hj' : j < k := by have := lt_of_get hj; have h2 := hk x (List.mem_of_getElem? hi); unfold D.width at h2; omega
      have e1 : (i * k + j) / k = i := by rw [Nat.add_comm, Nat.add_mul_div_right _ _ hk0, Nat.div_eq_of_lt hj']; simp
      have e2 : (i * k + j) % k = j := by rw [Nat.add_comm, Nat.add_mul_mod_self_right, Nat.mod_eq_of_lt hj']
      simp only [e1, e2]
      exact hr i x j c hi hj
theorem rep_mk {S : Nat → Nat → Prop} {w : World} {b o len cap k : Nat} {xs : List D} (hl : xs.length = len) (hc : len ≤ cap) (hk : ∀ x ∈ xs, x.width = k) (f : Nat → Value)
    (hm : ∀ q, q < len * k → S b (o + q) ∧ w.cell? ⟨b, o + q, none⟩ = some (f q)) (hr : ∀ i x j c, xs[i]? = some x → x.cells[j]? = some c → Rep S w (f (i * k + j)) c) :
    Rep S w (.slice (some ⟨b, o, none⟩) len cap) (.list xs) := by
  refine .list k (fun i j => f (i * k + j)) hl hc (fun _ => ⟨b, o, rfl⟩) hk (fun i x j c b' o' hi hj he => ?_) hr
  simp only [Option.some.injEq, Addr.mk.injEq] at he
  obtain ⟨rfl, rfl, _⟩ := he
  refine hm _ ?_
  have h1 := lt_of_get hi
  have h2 := lt_of_get hj
  have h3 := hk x (List.mem_of_getElem? hi)
  unfold D.width at h3
  have h4 : (i + 1) * k ≤ len * k := Nat.mul_le_mul_right _ (by omega)
  rw [Nat.add_mul] at h4
  omega
theorem one_cell {S : Nat → Nat → Prop} {w : World} {v : Value} {c : D} (h : Rep S w v c) (ho : c.one = true) : v.oneCell' = true := by
  cases h <;> first | rfl | (simp [D.one] at ho)

/-- What an append needs to know of a slice type: the element's type, size and bytes. -/
def apd (P : Program) (t : TypeId) : Option (TypeId × Nat × Nat) :=
  match P.underlying t with
  | some (.slice e) => (match P.info? e with
    | some i => (match i.zero with
      | some z => bif Nat.beq z.cells.size i.size && Nat.ble 1 i.size && Nat.ble 1 i.bytes then some (e, i.size, i.bytes) else none
      | none => none)
    | none => none)
  | _ => none
theorem apd_spec {t e k by_ : Nat} (h : apd P t = some (e, k, by_)) : P.underlying t = some (.slice e) ∧ ∃ i z, P.info? e = some i ∧ i.zero = some z ∧ z.cells.size = k ∧ i.size = k ∧ i.bytes = by_ ∧ 0 < k ∧ 0 < by_ := by
  unfold apd at h
  split at h
  · rename_i e' hu
    split at h
    · rename_i i hi
      split at h
      · rename_i z hz
        cases hb : Nat.beq z.cells.size i.size && Nat.ble 1 i.size && Nat.ble 1 i.bytes
        · rw [hb] at h; cases h
        · rw [hb] at h
          simp only [cond_true, Option.some.injEq, Prod.mk.injEq] at h
          obtain ⟨rfl, rfl, rfl⟩ := h
          simp only [Bool.and_eq_true] at hb
          exact ⟨hu, i, z, hi, hz, Nat.eq_of_beq_eq_true hb.1.1, rfl, rfl, Nat.le_of_ble_eq_true hb.1.2, Nat.le_of_ble_eq_true hb.2⟩
      · cases h
    · cases h
  · cases h
/-- What is appended: its elements. -/
def apSrc (P : Program) (t0 t1 : TypeId) (y : AV) : Option (List D) :=
  match tk P t1 with
  | .str => (match y with
    | .d (.str bs) => some (bs.map u8)
    | _ => none)
  | .slice => y.list
  | _ => none
/-- A source's cells. -/
theorem apSrc_run {g : G} {w : World} {v : Value} {y : AV} {t0 t1 k : Nat} {ys : List D} (hv : Rel g w v y) (hs : apSrc P t0 t1 y = some ys) (hk : ∀ x ∈ ys, x.width = k) (hk0 : 0 < k) (h1 : ∀ x ∈ ys, ∀ c ∈ x.cells, c.one = true) :
    (P.underlying t1 = some .string ∨ ∃ e, P.underlying t1 = some (.slice e)) ∧ ∃ news : List Value, news.length = ys.length * k ∧ (Builtin.lenOf v).run P w = .ok ys.length w ∧
      (∀ w', w'.heap = w.heap → (Builtin.lenOf v).run P w' = .ok ys.length w' ∧ (Builtin.firstCells k ys.length v).run P w' = .ok news.toArray w') ∧ (∀ u ∈ news, u.oneCell' = true) ∧
      ∀ i x j c, ys[i]? = some x → x.cells[j]? = some c → Rep g.S w (news.getD (i * k + j) undef) c := by
  unfold apSrc at hs
  split at hs
  · rename_i ht
    have hu := tk_spec ht
    refine ⟨.inl hu, ?_⟩
    split at hs
    · rename_i bs
      simp only [Option.some.injEq] at hs; subst hs
      cases hv with
      | d hr =>
        cases hr with
        | @str s =>
          have l1 : s.data.toList.length = s.size := Array.length_toList
          refine ⟨s.data.toList.map fun c => .int .u8 c.toNat, ?_, by simp [Builtin.lenOf, l1], fun w' _ => ⟨by simp [Builtin.lenOf, l1], ?_⟩, ?_, ?_⟩
          · rw [List.length_map, List.length_map]
            rcases Nat.eq_zero_or_pos s.data.toList.length with h | h
            · rw [h]; simp
            · have := hk (u8 s.data.toList[0]) (List.mem_map.2 ⟨_, List.getElem_mem h, rfl⟩)
              have e : k = 1 := this.symm
              rw [e, Nat.mul_one]
          · simp only [Builtin.firstCells, Sem.run_pure]
            congr 1
            have e : (s.extract 0 s.size).data = s.data := by rw [ByteArray.data_extract]; exact Array.extract_size
            rw [List.length_map, l1, e]
            apply Array.ext'
            simp
          · intro u hu'
            simp only [List.mem_map] at hu'
            obtain ⟨c, _, rfl⟩ := hu'
            rfl
          · intro i x j c hi hj
            simp only [List.getElem?_map, Option.map_eq_some_iff] at hi
            obtain ⟨q, h1', rfl⟩ := hi
            have hj0 : j = 0 := by have := lt_of_get hj; simp [u8, D.cells] at this; omega
            subst hj0
            simp [u8, D.cells] at hj; subst hj
            have e : k = 1 := (hk (u8 q) (List.mem_map.2 ⟨q, List.mem_of_getElem? h1', rfl⟩)).symm
            subst e
            simp [h1']
            exact .int
    · cases hs
  · rename_i ht
    obtain ⟨e, hu⟩ := tk_spec ht
    refine ⟨.inr ⟨_, hu⟩, ?_⟩
    obtain ⟨a, len, cap, rfl, hrep⟩ := list_rep hv hs
    obtain ⟨e1, e2⟩ := rep_len hrep
    obtain ⟨f, hf1, hf2⟩ := rep_cells hrep hk hk0
    refine ⟨(List.range (len * k)).map f, by simp [e1], by simp [Builtin.lenOf, e1], fun w' hw' => ⟨by simp [Builtin.lenOf, e1], ?_⟩, ?_, ?_⟩
    · cases a with
      | none =>
        have : len * k = 0 := by
          rcases Nat.eq_zero_or_pos (len * k) with h | h
          · exact h
          · obtain ⟨b, o, h', _⟩ := hf1 0 h; cases h'
        rw [this]; simp [Builtin.firstCells]
      | some ad =>
        rw [e1]
        refine run_firstCells_some (P := P) w' k len ad len cap _ (by simp) fun j v hj => ?_
        have hlt := lt_of_get hj
        simp at hlt
        obtain ⟨b, o, h', _, hcell⟩ := hf1 j hlt
        simp only [Option.some.injEq] at h'; subst h'
        simp only [List.getElem?_map, List.getElem?_range hlt, Option.map_some, Option.some.injEq] at hj
        subst hj
        rw [Addr.add_lit, cell_other (w := w) (by rw [hw']), hcell]
    · intro u hu'
      simp only [List.mem_map, List.mem_range] at hu'
      obtain ⟨q, hq, rfl⟩ := hu'
      have hi : q / k < len := (Nat.div_lt_iff_lt_mul hk0).2 hq
      have hj : q % k < k := Nat.mod_lt _ hk0
      have hx : ys[q / k]? = some ys[q / k] := by simp [e1, hi]
      have hwx : (ys[q / k]).cells.length = k := hk _ (List.getElem_mem _)
      have hc' : (ys[q / k]).cells[q % k]? = some ((ys[q / k]).cells[q % k]) := by simp [hwx, hj]
      have := hf2 _ _ _ _ hx hc'
      rw [Nat.div_add_mod'] at this
      exact one_cell this (h1 _ (List.getElem_mem _) _ (List.getElem_mem _))
    · intro i x j c hi hj
      have h2 := lt_of_get hi
      have h3 := lt_of_get hj
      have h4 := hk x (List.mem_of_getElem? hi)
      unfold D.width at h4
      have h5 : (i + 1) * k ≤ len * k := Nat.mul_le_mul_right _ (by omega)
      rw [Nat.add_mul] at h5
      have hlt : i * k + j < len * k := by omega
      have := hf2 i x j c hi hj
      simpa [List.getD, hlt] using this
  · cases hs

/-- The part of an append that is the machine's: it fits, or a new row is made. -/
theorem append_fits {t0 t1 ty e k by_ : Nat} (hap : apd P t0 = some (e, k, by_)) (hd : P.underlying t1 = some .string ∨ ∃ e, P.underlying t1 = some (.slice e)) (w w' : World) (a : Option Addr) (len cap m : Nat) (v : Value) (news : List Value)
    (hlen : (Builtin.lenOf v).run P w = .ok m w) (hnew : (Builtin.firstCells k m v).run P w = .ok news.toArray w) (hfit : len + m ≤ cap)
    (hst : ∀ ad, a = some ad → (storeCells (ad.add (len * k)) news).run P w = .ok () w') (hst0 : a = none → w' = w) :
    (Builtin.append_ #[t0, t1] ty #[.slice a len cap, v]).run P w = .ok (.slice a (len + m) cap) w' := by
  obtain ⟨hu, i, z, hi, hz, hzs, rfl, rfl, hk0, hb0⟩ := apd_spec hap
  rcases hd with hd | ⟨e', hd⟩
  all_goals
    cases a with
    | none =>
      obtain rfl := hst0 rfl
      simp [Builtin.append_, run_underlying hu, run_underlying hd, sizeOf, typeInfo, hi, hlen, hnew, hfit]
    | some ad => simp [Builtin.append_, run_underlying hu, run_underlying hd, sizeOf, typeInfo, hi, hlen, hnew, hfit, hst ad rfl]
theorem append_grows {t0 t1 ty e k by_ : Nat} (hap : apd P t0 = some (e, k, by_)) (hd : P.underlying t1 = some .string ∨ ∃ e, P.underlying t1 = some (.slice e)) (w : World) (a : Option Addr) (len cap m : Nat) (v : Value) (news olds : List Value)
    (hlen : (Builtin.lenOf v).run P w = .ok m w) (hnew : (Builtin.firstCells k m v).run P w.drew = .ok news.toArray w.drew) (hold : (Builtin.firstCells k len (.slice a len cap)).run P w.drew = .ok olds.toArray w.drew)
    (hfit : cap < len + m) (hb : (len + m) * by_ ≤ 140737488355328) :
    ∃ z : Value, z.cells.size = k ∧ (Builtin.append_ #[t0, t1] ty #[.slice a len cap, v]).run P w = .ok (.slice (some ⟨w.heap.size, 0, none⟩) (len + m) (grownCap w (len + m) cap e))
      (w.drew.alloc (.cells (olds.toArray ++ news.toArray ++ Builtin.zeroCells z.cells (grownCap w (len + m) cap e - (len + m))) e)) := by
  obtain ⟨hu, i, z, hi, hz, hzs, rfl, rfl, hk0, hb0⟩ := apd_spec hap
  have hn : ¬ (len + m ≤ cap) := by omega
  have hle : len + m ≤ (len + m) * i.bytes := Nat.le_mul_of_pos_right _ hb0
  have h63' : ¬ (9223372036854775807 < ((len : Int) + (m : Int))) := by omega
  have hfit' := growslice_fits hfit hb
  have h48' : ¬ (281474976710656 < Builtin.nextslicecap (len + m) cap * i.bytes) := by omega
  refine ⟨z, hzs, ?_⟩
  rcases hd with hd | ⟨e', hd⟩
  all_goals
    simp [Builtin.append_, run_underlying hu, run_underlying hd, sizeOf, typeInfo, zeroValue, hi, hz, hlen, hn, h63', h48', Question.forced, hnew, hold, newRow, grownCap]
    congr 2
    apply Array.ext'
    simp [List.append_assoc]
end Go.Wl

