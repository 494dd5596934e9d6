/- A region that draws its order and in which an allocation floats among quiet operations, ahead of a forced tail. No program is named here. -/
import Derived.StillTail
import Derived.Deep.QuietTactic
namespace Go.Proofs.Ytdeegjhnomdepaa.b
open Go

section
variable {P : Program} {ops : Array Oper} {md : Region.Mode} {F : Array Bool → World → Prop}

/-- An operation's end: this value, in a world of that class. -/
def stepTo (P : Program) (C : World → Prop) (v : Value) : Result Next → Prop
  | .ok (.value u) w' => u = v ∧ C w'
  | .ok .skip w' => v = undef ∧ C w'
  | .ok (.enter f args) w' => Calls P f args w' fun e w'' => e = .returned v ∧ C w''
  | _ => False
/-- Operation i yields v in state a, whatever others have been done. The worlds lie in a family over what has been done. -/
def Yf (P : Program) (ops : Array Oper) (F : Array Bool → World → Prop) (i : Nat) (o : Oper) (v : Value) (a : Act) : Prop :=
  Region.wanted o (yielded ops a.tmps) = true ∧ ∀ done w, i < done.size → done.getD i true = false → F done w → stepTo P (F (done.setIfInBounds i true)) v ((execOp a.eval o).run P w)
def yOp (P : Program) (ops : Array Oper) (F : Array Bool → World → Prop) (i : Nat) (K : Act → Prop) (a : Act) : Prop := ∃ o v, ops[i]? = some o ∧ Yf P ops F i o v a ∧ K (a.put o.dst v)

theorem yOp_wp {i : Nat} {a : Act} {K : Act → Prop} {K' : Act → World → Prop} {R : Exit → Act → World → Prop} {done : Array Bool} {w : World} (hs : i < done.size) (hd : done.getD i true = false) (hw : F done w)
    (h : ∀ a w', F (done.setIfInBounds i true) w' → K a → K' a w') (hy : yOp P ops F i K a) : wpOp P ops R i K' a w := by
  obtain ⟨o, v, ho, ⟨hwant, hy⟩, hK⟩ := hy
  unfold wpOp
  simp only [ho, hwant, if_true]
  refine .inl ?_
  have h1 := hy done w hs hd hw
  unfold Oper.wp
  generalize (execOp a.eval o).run P w = r at h1
  cases r with
  | ok n w' =>
    cases n <;> simp only [stepTo] at h1 <;> simp only [Oper.upon]
    case value u => obtain ⟨rfl, h2⟩ := h1; exact h _ _ h2 hK
    case skip => obtain ⟨rfl, h2⟩ := h1; exact h _ _ h2 hK
    case enter f args => exact h1.mono fun e w'' ⟨he, h2⟩ => by subst he; exact h _ _ h2 hK
  | halt x w' => simp only [stepTo] at h1

def Hf (P : Program) (md : Region.Mode) (ops : Array Oper) (F : Array Bool → World → Prop) (n : Nat) (D : Array Bool → Act → Prop) : Nat → Array Bool → Act → Prop
  | 0, done, a => D done a
  | k + 1, done, a => Region.ready md ops done ≠ [] ∧ ∀ i, i ∈ Region.ready md ops done → i < n ∧ yOp P ops F i (Hf P md ops F n D k (done.setIfInBounds i true)) a

theorem Hf.any {n g : Nat} {D : Array Bool → Act → Prop} {R : Exit → Act → World → Prop} (hD : ∀ done a w, F done w → D done a → wpAny P md ops R g done a w) :
    ∀ (k : Nat) (done : Array Bool) (a : Act) (w : World), done.size = ops.size → F done w → Hf P md ops F n D k done a → wpAny P md ops R (k + g) done a w := by
  intro k
  induction k with
  | zero => intro done a w _ hw h; rw [Nat.zero_add]; exact hD done a w hw h
  | succ k ih =>
    intro done a w hz hw h
    rw [show k + 1 + g = (k + g) + 1 by omega]
    refine ⟨fun h0 => absurd h0 h.1, fun i hi => ?_⟩
    obtain ⟨hd, q, hq, _⟩ := mem_ready.1 hi
    have hlt : i < ops.size := (Array.getElem?_eq_some_iff.1 hq).1
    exact yOp_wp (by omega) hd hw (fun a' w' hw' h' => ih _ a' w' (by simpa using hz) hw' h') (h.2 i hi).2

theorem Yf.put {i : Nat} {o q : Oper} {v u : Value} {a : Act} (ho : o.apart ops q = true) (hsi : ∀ cs b, o.op ≠ .select cs b) (hy : Yf P ops F i o v a) : Yf P ops F i o v (a.put q.dst u) := by
  obtain ⟨_, _, h3⟩ := Oper.apart_spec ho
  unfold Yf at *
  rw [execOp_put o hsi a q.dst u h3, wanted_put o a q.dst u h3]
  exact hy
theorem Yf.back {j : Nat} {o q : Oper} {v u : Value} {a : Act} (ho : o.apart ops q = true) (hsj : ∀ cs b, q.op ≠ .select cs b) (hy : Yf P ops F j q u (a.put o.dst v)) : Yf P ops F j q u a := by
  obtain ⟨h1, _, _⟩ := Oper.apart_spec ho
  unfold Yf at *
  rw [execOp_put q hsj a o.dst v h1, wanted_put q a o.dst v h1] at hy
  exact hy

theorem Hf.first {n i : Nat} {o : Oper} {v : Value} {D : Array Bool → Act → Prop} (ho : ops[i]? = some o) (hsel : ∀ (j : Nat) (q : Oper) cs b, ops[j]? = some q → q.op ≠ .select cs b)
    (hs : Region.sinkB md ops n = true) (hc : Region.chainB md ops n = true) (hn : n < ops.size) (hin : i < n) (hend : ∀ done a, D done a → ∀ j, j ∈ Region.ready md ops done → n ≤ j) :
    ∀ (k : Nat) (done : Array Bool) (a : Act), HeadInv md ops n done →
      (∀ j q, ops[j]? = some q → j ≠ i → done.getD j true = false → (∀ e ∈ q.after, Region.binds md e = true → e.on ≠ i) → o.apart ops q = true) →
      i ∈ Region.ready md ops done → Yf P ops F i o v a → Hf P md ops F n D k (done.setIfInBounds i true) (a.put o.dst v) → Hf P md ops F n D (k + 1) done a := by
  intro k
  induction k with
  | zero =>
    intro done a inv _ hr hy H
    refine ⟨fun h => (by rw [h] at hr; cases hr), fun j hj => ?_⟩
    by_cases hji : j = i
    · subst hji
      exact ⟨hin, o, v, ho, hy, H⟩
    · have h1 := hend _ _ H j (ready_mono hj hji)
      have h2 : ¬ n ≤ j := fun h => tail_waits hs hc hn inv _ i rfl hin (mem_ready.1 hr).1 j h hj
      exact absurd h1 h2
  | succ k ih =>
    intro done a inv hfree hr hy H
    refine ⟨fun h => (by rw [h] at hr; cases hr), fun j hj => ?_⟩
    have hjn : j < n := Nat.lt_of_not_le fun h => tail_waits hs hc hn inv _ i rfl hin (mem_ready.1 hr).1 j h hj
    by_cases hji : j = i
    · subst hji
      exact ⟨hjn, o, v, ho, hy, H⟩
    · refine ⟨hjn, ?_⟩
      obtain ⟨hju, q, hq, hall⟩ := mem_ready.1 hj
      have hnot : ∀ e ∈ q.after, Region.binds md e = true → e.on ≠ i := by
        intro e he hb hei
        have h3 := hall e he hb
        rw [hei, getD_both (mem_ready.1 hr).1] at h3
        cases h3
      have hap := hfree j q hq hji hju hnot
      obtain ⟨q', u, hq', hyj, hK⟩ := (H.2 j (ready_mono hj hji)).2
      obtain rfl : q' = q := Option.some.inj (hq'.symm.trans hq)
      refine ⟨q', u, hq, hyj.back hap (fun cs b => hsel j q' cs b hq), ?_⟩
      refine ih (done.setIfInBounds j true) _ (inv.set hj hjn) ?_ (ready_mono hr (Ne.symm hji)) (hy.put hap (fun cs b => hsel i o cs b ho)) ?_
      · intro m r hm hmi hun hno
        refine hfree m r hm hmi ?_ hno
        by_cases hjm : j = m
        · subst hjm; exact hju
        · rwa [getD_set_ne true hjm] at hun
      · rw [Array.setIfInBounds_comm _ _ hji]
        obtain ⟨_, h2, _⟩ := Oper.apart_spec hap
        rwa [Act.put_comm a v u h2] at hK

/-- The walk in the order of the text. -/
def Wf (P : Program) (ops : Array Oper) (F : Array Bool → World → Prop) (D : Act → Prop) : List Oper → Nat → Act → Prop
  | [], _, a => D a
  | o :: l, k, a => ∃ v, Yf P ops F k o v a ∧ Wf P ops F D l (k + 1) (a.put o.dst v)

theorem Hf.lex {n g : Nat} {D : Act → Prop} (hsel : Region.noSelect ops = true) (hs : Region.sinkB md ops n = true) (hc : Region.chainB md ops n = true) (hn : n < ops.size) :
    ∀ (l : List Oper) (k : Nat) (done : Array Bool) (a : Act), (∀ j, j < l.length → l[j]? = ops[k + j]?) → k + l.length = n → HeadInv md ops n done → Region.lexHead md ops g l.length k done = true →
      Wf P ops F D l k a → Hf P md ops F n (fun d a' => (Region.seqB md ops g n d = true ∧ ∀ i, i < k + l.length → k ≤ i ∨ done.getD i false = true → d.getD i false = true) ∧ D a') l.length done a := by
  intro l
  induction l with
  | nil =>
    intro k done a _ hk _ hB h
    obtain rfl : k = n := by simpa using hk
    refine ⟨⟨by simpa [Region.lexHead] using hB, fun i hi ho => ?_⟩, h⟩
    simp at hi
    rcases ho with h1 | h1
    · omega
    · exact h1
  | cons o l ih =>
    intro k done a hl hk inv hB h
    have h0 : ops[k]? = some o := by simpa using (hl 0 (by simp)).symm
    simp only [List.length_cons, Region.lexHead, Bool.and_eq_true] at hB
    have hkn : k < n := by simp only [List.length_cons] at hk; omega
    have hr : k ∈ Region.ready md ops done := by simpa using hB.1.1
    obtain ⟨v, hy, hK⟩ := h
    have hz := inv.size
    refine Hf.first h0 (Region.noSelect_spec hsel) hs hc hn hkn (fun _ _ hL => seqB_ready hL.1.1) l.length done a inv (Region.free_spec h0 hB.1.2) hr hy ?_
    have H := ih (k + 1) _ _ (fun j hj => by
      have := hl (j + 1) (by simp; omega)
      simpa [Nat.add_assoc, Nat.add_comm 1 j] using this) (by simp only [List.length_cons] at hk; omega) (inv.set hr hkn) hB.2 hK
    have himp : ∀ (d : Array Bool) (a' : Act), ((Region.seqB md ops g n d = true ∧ ∀ i, i < k + 1 + l.length → k + 1 ≤ i ∨ (done.setIfInBounds k true).getD i false = true → d.getD i false = true) ∧ D a') →
        ((Region.seqB md ops g n d = true ∧ ∀ i, i < k + (o :: l).length → k ≤ i ∨ done.getD i false = true → d.getD i false = true) ∧ D a') := by
      rintro d a' ⟨⟨h1, h2⟩, h3⟩
      refine ⟨⟨h1, fun i hi ho => h2 i (by simp only [List.length_cons] at hi; omega) ?_⟩, h3⟩
      by_cases hik : k = i
      · subst hik
        right
        simp [show k < done.size by omega]
      · rcases ho with h | h
        · left; omega
        · right; exact getD_set_true h
    have mono : ∀ (m : Nat) (d : Array Bool) (a' : Act), Hf P md ops F n (fun d a' => (Region.seqB md ops g n d = true ∧ ∀ i, i < k + 1 + l.length → k + 1 ≤ i ∨ (done.setIfInBounds k true).getD i false = true → d.getD i false = true) ∧ D a') m d a' →
        Hf P md ops F n (fun d a' => (Region.seqB md ops g n d = true ∧ ∀ i, i < k + (o :: l).length → k ≤ i ∨ done.getD i false = true → d.getD i false = true) ∧ D a') m d a' := by
      intro m
      induction m with
      | zero => intro d a' h; exact himp d a' h
      | succ m ihm => exact fun d a' h => ⟨h.1, fun i hi => ⟨(h.2 i hi).1, let ⟨q, u, e1, e2, e3⟩ := (h.2 i hi).2; ⟨q, u, e1, e2, ihm _ _ e3⟩⟩⟩
    exact mono _ _ _ H

theorem region_family {id : Nat} {Q : Exit → Act → World → Prop} {a : Act} {w : World} {l : List Oper} (F : Array Bool → World → Prop) (n : Nat) (hm : P.follows .mixedOrders = true) (hB : Region.lexTailB .any l.toArray n = true)
    (hF : F (Array.replicate l.toArray.size false) { w with drawn := w.drawn + 1 })
    (h : Wf P l.toArray F (fun a' => ∀ done w', (∀ i, i < n → done.getD i false = true) → F done w' → wpList P l.toArray Q (l.drop n) a' w') (l.take n) 0 a) : (Code.region id l.toArray true).wp P Q a w := by
  simp only [Region.lexTailB, Bool.and_eq_true, decide_eq_true_eq] at hB
  obtain ⟨⟨⟨⟨hsel, hn⟩, hs⟩, hc⟩, hlex⟩ := hB
  have hn' : n < l.length := by simpa using hn
  have htl : (l.take n).length = n := by simp; omega
  have hdl : (l.drop n).length = l.toArray.size - n := by simp
  have inv0 : HeadInv .any l.toArray n (Array.replicate l.toArray.size false) :=
    ⟨by simp, fun j q _ hl => (by rw [getD_replicate_false] at hl; cases hl), fun t _ ht => getD_in (by simpa using ht) (getD_replicate_false _ _)⟩
  have H := Hf.lex (md := .any) (g := l.toArray.size - n) hsel hs hc hn (l.take n) 0 _ a (fun j hj => by
    have : j < n := by rw [htl] at hj; exact hj
    simp [this]) (by simpa using htl) inv0 (by rw [htl]; exact hlex) h
  refine wp_region_any hm ?_
  have H2 := Hf.any (R := Q) (g := l.toArray.size - n) (fun done a' w' hw' hL => by
    have h3 := wpAny_of_seq (md := .any) (Q' := Q) (l.drop n) n done a' w' (fun j => by simp [List.getElem?_drop]) (by rw [hdl]; exact hL.1.1) (hL.2 done w' (fun i hi => hL.1.2 i (by rw [htl]; omega) (.inl (Nat.zero_le _))) hw')
    rwa [hdl] at h3) _ _ _ _ (by simp) hF H
  rwa [htl, show n + (l.toArray.size - n) = l.toArray.size by omega] at H2

/-! ### one allocation among quiet operations -/
/-- Behind operation f there is an object more. -/
def Fl (w0 : World) (o : Obj) (f : Nat) (done : Array Bool) (w : World) : Prop := ∃ m, w = (if done.getD f false then w0.alloc o else w0).drewN m
theorem getD_fl {done : Array Bool} {f j : Nat} (h : j ≠ f) : (done.setIfInBounds j true).getD f false = done.getD f false := getD_set_ne false h
/-- A quiet operation. -/
theorem Wf_quiet {w0 : World} {ob : Obj} {f k : Nat} {D : Act → Prop} {o : Oper} {l : List Oper} {a : Act} (hkf : k ≠ f) (hw : Region.wanted o (yielded ops a.tmps) = true)
    (h : ∀ K : Act → Prop, (∀ a, Wf P ops (Fl w0 ob f) D l (k + 1) a → K a) → ∃ v, (∀ B, (B = w0 ∨ B = w0.alloc ob) → ∀ m, o.quietAt P a (fun w'' => ∃ m', w'' = B.drewN m') (B.drewN m) v) ∧ K (a.put o.dst v)) :
    Wf P ops (Fl w0 ob f) D (o :: l) k a := by
  obtain ⟨v, h1, h2⟩ := h _ (fun _ h => h)
  refine ⟨v, ⟨hw, fun done w _ _ hF => ?_⟩, h2⟩
  obtain ⟨m, rfl⟩ := hF
  have hq := h1 (if done.getD f false = true then w0.alloc ob else w0) (by split <;> simp) m
  unfold Oper.quietAt at hq
  generalize (execOp a.eval o).run P _ = r at hq
  have hfin : ∀ w'', (∃ m', w'' = (if done.getD f false then w0.alloc ob else w0).drewN m') → Fl w0 ob f (done.setIfInBounds k true) w'' := by
    rintro w'' ⟨m', rfl⟩
    exact ⟨m', by rw [getD_fl hkf]⟩
  cases r with
  | ok n w' =>
    cases n <;> simp only [Oper.quietUpon] at hq <;> simp only [stepTo]
    case value u => exact ⟨hq.2, hfin _ ⟨m, hq.1⟩⟩
    case skip => exact ⟨hq.2, hfin _ ⟨m, hq.1⟩⟩
    case enter g args =>
      obtain ⟨rfl, hc⟩ := hq
      exact hc.mono fun e w'' ⟨he, hw''⟩ => ⟨he, hfin _ hw''⟩
  | halt x w' => simp only [Oper.quietUpon] at hq
/-- The allocation. -/
theorem Wf_alloc {w0 : World} {ob : Obj} {f : Nat} {D : Act → Prop} {o : Oper} {l : List Oper} {a : Act} (hw : Region.wanted o (yielded ops a.tmps) = true)
    (h1 : ∀ m, (execOp a.eval o).run P (w0.drewN m) = .ok (.value (.pointer (some ⟨w0.heap.size, 0, none⟩))) ((w0.drewN m).alloc ob)) (h : Wf P ops (Fl w0 ob f) D l (f + 1) (a.put o.dst (.pointer (some ⟨w0.heap.size, 0, none⟩)))) :
    Wf P ops (Fl w0 ob f) D (o :: l) f a := by
  refine ⟨_, ⟨hw, fun done w hz hd hF => ?_⟩, h⟩
  obtain ⟨m, rfl⟩ := hF
  have hd' : done.getD f false = false := getD_both hd
  rw [hd']
  simp only [Bool.false_eq_true, if_false, h1 m, stepTo]
  refine ⟨trivial, m, ?_⟩
  have : (done.setIfInBounds f true).getD f false = true := by simp [hz]
  rw [this]
  rfl
theorem Wf.mono {D D' : Act → Prop} (hD : ∀ a, D a → D' a) : ∀ (l : List Oper) (k : Nat) (a : Act), Wf P ops F D l k a → Wf P ops F D' l k a := by
  intro l
  induction l with
  | nil => intro k a h; exact hD a h
  | cons o l ih => rintro k a ⟨v, h1, h2⟩; exact ⟨v, h1, ih _ _ h2⟩
theorem region_float {id : Nat} {Q : Exit → Act → World → Prop} {a : Act} {w : World} {l : List Oper} (ob : Obj) (n f : Nat) (hf : f < n) (hm : P.follows .mixedOrders = true) (hB : Region.lexTailB .any l.toArray n = true)
    (h : Wf P l.toArray (Fl w ob f) (fun a' => ∀ m, wpList P l.toArray Q (l.drop n) a' ((w.alloc ob).drewN m)) (l.take n) 0 a) : (Code.region id l.toArray true).wp P Q a w := by
  refine region_family (Fl w ob f) n hm hB ⟨1, by rw [getD_replicate_false]; rfl⟩ (Wf.mono (fun a' ha done w' hdone hF => ?_) _ _ _ h)
  obtain ⟨m, rfl⟩ := hF
  rw [hdone f hf, if_pos rfl]
  exact ha m
end
end Go.Proofs.Ytdeegjhnomdepaa.b

