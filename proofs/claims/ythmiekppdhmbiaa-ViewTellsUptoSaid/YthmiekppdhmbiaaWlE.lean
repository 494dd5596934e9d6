/- Values and memory told without addresses: bytes of a text, ranges over texts. -/
import Derived.Test.YthmiekppdhmbiaaWlD
set_option linter.unusedVariables false
set_option linter.unusedSimpArgs false
namespace Go.Wl
variable {P : Program}

/-- Whether a conversion makes bytes of a text. -/
def cvB (P : Program) (src dst : TypeId) : Bool :=
  match P.underlying src, P.underlying dst with
  | some .string, some (.slice e) => (match P.underlying e with
    | some (.int .u8) => true
    | _ => false)
  | _, _ => false
def acvB (P : Program) (s : St) (d : Nat) (src dst : TypeId) (x : AV) : Option St :=
  match x with
  | .d (.str bs) => bif cvB P src dst && ltb d s.n then (bif memb s.mt d then
      (bif freshC s d (s.nmOf d) then some { s with tm := lset s.tm d (.slc (s.nmOf d) 0 bs.length bs.length), hp := lset s.hp (s.nmOf d) (.cells (bs.map fun c => .d (u8 c))) } else none)
      else bif freshN s d (s.nmOf d) then some { s with tm := lset s.tm d (.sl (s.nmOf d) (bs.map u8)), hp := lset s.hp (s.nmOf d) (.tail 1) } else none) else none
  | _ => none
theorem strBytes_run {src dst : TypeId} (h : cvB P src dst = true) (w : World) (s : ByteArray) : ∃ (e : TypeId) (c : Array Value), s.size ≤ c.size ∧ (∀ j, j < s.size → c.getD j undef = .int .u8 (s.data.toList.getD j 0).toNat) ∧
    (convert src dst (.string s)).run P w = .ok (.slice (some ⟨w.heap.size, 0, none⟩) s.size c.size) (({ w with drawn := w.drawn + 1 } : World).alloc (.cells c e (c.size, c.size + 1))) := by
  unfold cvB at h
  split at h
  · rename_i e h1 h2
    split at h
    · rename_i h3
      generalize hcap : (Question.appendCap s.size 0 e).cut (w.tape w.drawn (.appendCap s.size 0 e)) = cap
      have hle : s.size ≤ cap := by subst hcap; simp [Question.cut]
      generalize hc : (s.data.map (fun b => Value.int .u8 b.toNat) ++ Array.replicate (cap - s.size) (Value.int .u8 0)) = c
      have hsd : s.data.size = s.size := rfl
      have hsize : c.size = cap := by subst hc; simp only [Array.size_append, Array.size_map, Array.size_replicate, hsd]; omega
      refine ⟨e, c, by omega, fun j hj => ?_, ?_⟩
      · subst hc
        have hj' : j < s.data.size := hj
        rw [Array.getD_eq_getD_getElem?, Array.getElem?_append_left (by simpa using hj'), Array.getElem?_map]
        rw [List.getD, Array.getElem?_toList, Array.getElem?_eq_getElem hj']
        rfl
      · simp only [convert, Sem.run_bind, run_underlying h1, run_underlying h2, run_underlying h3, Result.andThen_ok, Conv.stringToBytes, run_choose, Question.forced, Bool.false_eq_true, if_false, hcap, newRow, run_newObj, Sem.run_pure, hc, markStringish, run_shape]
        have hsh : ({ w with heap := w.heap.push (.cells c e), drawn := w.drawn + 1 } : World).shape? w.heap.size = some (e, c.size) := by simp [World.shape?]
        simp only [hsh, run_freeze, Result.andThen_ok]
        simp only [World.freeze, Nat.one_ne_zero, if_false, World.alloc, hsize]
        congr 2
        apply Array.ext_getElem?
        intro i
        rw [Array.getElem?_modify]
        by_cases hi : w.heap.size = i
        · subst hi; simp [hsize]
        · rw [if_neg hi, Array.getElem?_push, Array.getElem?_push, if_neg (Ne.symm hi), if_neg (Ne.symm hi)]
    · cases h
  · cases h
theorem acvB_sound {g : G} {s s' : St} {a : Act} {w : World} (h : Sim g s a w) {d : Nat} {src dst : TypeId} {x : AV} {v : Value} (hx : Rel g w v x) (ha : acvB P s d src dst x = some s') :
    ∃ u w' g', (convert src dst v).run P w = .ok u w' ∧ Sim g' s' (a.put (some d) u) w' ∧ Ev (Own g s.hp) (Own g' s'.hp) g g' w w' ∧ Names g s.hp g' s'.hp := by
  unfold acvB at ha
  split at ha
  · rename_i bs
    cases hc : (cvB P src dst && ltb d s.n)
    · rw [hc] at ha; cases ha
    · rw [hc] at ha
      simp only [cond_true] at ha
      simp only [Bool.and_eq_true] at hc
      obtain ⟨hcv, hd⟩ := hc
      have hd : d < s.n := Nat.le_of_ble_eq_true hd
      cases hx with
      | d hx =>
        cases hx with
        | @str b =>
          obtain ⟨e, c, hle, hcg, hrun⟩ := strBytes_run (P := P) hcv w b
          have l1 : b.data.toList.length = b.size := Array.length_toList
          generalize hw1 : ({ w with drawn := w.drawn + 1 } : World) = w1 at hrun
          have hh1 : w1.heap = w.heap := by subst hw1; rfl
          have hS1 : SimH g s.hp w1 := h.hp.world hh1
          have hE : Ev (Own g s.hp) (Own g s.hp) g g w w1 := by subst hw1; exact Ev.world rfl rfl rfl rfl (fun _ _ => Iff.rfl) (fun _ _ h => h)
          have hnb : (w1.alloc (.cells c e (c.size, c.size + 1))).heap[w.heap.size]? = some (.cells c e (c.size, c.size + 1)) := by
            show (w1.heap.push _)[_]? = _
            rw [hh1]; simp
          have hfr : ∀ j, j < c.size → ¬ ((c.size, c.size + 1).1 ≤ j ∧ j < (c.size, c.size + 1).2) := fun j hj => by simp only; omega
          have hcell0 : ∀ o, o < c.size → (w1.alloc (.cells c e (c.size, c.size + 1))).cell? ⟨w.heap.size, o, none⟩ = some (c.getD o undef) := fun o ho => by rw [cell_of hnb]; simp [ho]
          generalize hnd : s.nmOf d = n at ha
          cases hm : memb s.mt d
          · rw [hm] at ha
            simp only [cond_false] at ha
            cases hf : freshN s d n
            · rw [hf] at ha; cases ha
            · rw [hf] at ha
              simp only [cond_true, Option.some.injEq] at ha; subst ha
              obtain ⟨hnt, hr, htl⟩ := freshN_spec hf
              obtain ⟨hA, hB⟩ := hS1.newTail htl hr c e (c.size, c.size + 1) b.size (c.size - b.size) 1 (by omega) (by omega) hfr
              rw [hh1] at hA hB
              generalize hg' : ((g.setτ n ⟨w.heap.size, b.size, c.size - b.size, 1⟩).seal fun b' o => b' = w.heap.size ∧ o < b.size) = g' at hA hB
              have hsame : ∀ m, m ≠ n → g'.ρ m = g.ρ m ∧ g'.τ m = g.τ m := fun m hm => by subst hg'; simp [G.setτ, G.seal, hm]
              have hτ : g'.τ n = ⟨w.heap.size, b.size, c.size - b.size, 1⟩ := by subst hg'; simp [G.setτ, G.seal]
              have hS : ∀ b o, g.S b o → g'.S b o := by subst hg'; exact fun b o h => .inl h
              have hSn : ∀ o, o < b.size → g'.S w.heap.size o := by subst hg'; exact fun o h => .inr ⟨rfl, h⟩
              have hcell : ∀ b o, g.S b o → (w1.alloc (.cells c e (c.size, c.size + 1))).cell? ⟨b, o, none⟩ = w.cell? ⟨b, o, none⟩ := fun b o hs => (hB.sealed hS1 b o hs).trans (by simp [World.cell?, hh1])
              have hrep : Rep g'.S (w1.alloc (.cells c e (c.size, c.size + 1))) (.slice (some ⟨w.heap.size, 0, none⟩) b.size c.size) (.list (b.data.toList.map u8)) := by
                refine rep_mk (k := 1) (by simp [l1]) hle (fun x hx => by obtain ⟨q, _, rfl⟩ := List.mem_map.1 hx; rfl) (fun j => c.getD j undef) (fun j hj => ⟨by rw [Nat.zero_add]; exact hSn j (by omega), by rw [Nat.zero_add]; exact hcell0 j (by omega)⟩) (fun i x j cc hi hj => ?_)
                simp only [List.getElem?_map, Option.map_eq_some_iff] at hi
                obtain ⟨q, hq, rfl⟩ := hi
                have hj0 : j = 0 := by have := lt_of_get hj; simp [u8, D.cells] at this; omega
                subst hj0
                simp [u8, D.cells] at hj; subst hj
                have hil := lt_of_get hq
                rw [hcg _ (by omega)]
                have : b.data.toList.getD (i * 1 + 0) 0 = q := by simp only [Nat.mul_one, Nat.add_zero, List.getD, hq, Option.getD_some]
                rw [this]
                exact .int
              refine ⟨_, _, g', hrun, h.upd d hd hS hcell (fun i hi m hm => hsame m fun e => hnt i hi (e ▸ hm)) (.sl hrep (fun x hx => by rw [hτ]; obtain ⟨q, _, rfl⟩ := List.mem_map.1 hx; rfl) (by rw [hτ]; simp only; omega) fun _ => ?_) hA, hE.trans hB, Names.ofTail htl hsame⟩
              rw [hτ]
              exact ⟨_, _, rfl, rfl, by simp⟩
          · rw [hm] at ha
            simp only [cond_true] at ha
            cases hf : freshC s d n
            · rw [hf] at ha; cases ha
            · rw [hf] at ha
              simp only [cond_true, Option.some.injEq] at ha; subst ha
              obtain ⟨hnt, hrf, hno⟩ := freshC_spec hf
              have hsame : ∀ m, m ≠ n → (g.setρ n w.heap.size).ρ m = g.ρ m ∧ (g.setρ n w.heap.size).τ m = g.τ m := fun m hm => by simp [G.setρ, hm]
              have hcell : ∀ b o, g.S b o → (w1.alloc (.cells c e (c.size, c.size + 1))).cell? ⟨b, o, none⟩ = w.cell? ⟨b, o, none⟩ := fun b o hs => (World.cell?_alloc_lt _ _ _ (hS1.lt hs)).trans (by simp [World.cell?, hh1])
              have hnew := hS1.new hno hrf (.cells c e (c.size, c.size + 1)) (.cells (b.data.toList.map fun c => .d (u8 c))) (by simp)
              rw [hh1] at hnew
              obtain ⟨hA, hB⟩ := hnew ⟨c, e, _, by simpa [G.setρ] using hnb, by simpa [l1] using hle, hfr, fun j x hj => by
                simp only [List.getElem?_map, Option.map_eq_some_iff] at hj
                obtain ⟨q, hq, rfl⟩ := hj
                have hil := lt_of_get hq
                rw [hcg _ (by omega)]
                have : b.data.toList.getD j 0 = q := by simp only [List.getD, hq, Option.getD_some]
                rw [this]
                exact .d .int⟩
              refine ⟨_, _, g.setρ n w.heap.size, hrun, h.upd (g' := g.setρ n w.heap.size) d hd (fun _ _ hs => hs) hcell (fun i hi m hm => hsame m fun e => hnt i hi (e ▸ hm)) ?_ hA, hE.trans hB, Names.ofTail (fun ob hob => by rw [hno] at hob; cases hob) hsame⟩
              have := Rel.slc (g := g.setρ n w.heap.size) (w := w1.alloc (.cells c e (c.size, c.size + 1))) (n := n) (off := 0) (len := b.data.toList.length) (cap := b.data.toList.length) (cap' := c.size) (by omega)
              rw [l1] at this ⊢
              simpa [G.setρ] using this
  · cases ha

/-- A text out of bytes of our own. -/
def acvS (P : Program) (s : St) (src dst : TypeId) (x : AV) : Option AV :=
  match x, cvK P src dst with
  | .slc n off len _, .bytes => (match lk s.hp n with
    | some (.cells vs) => bif Nat.ble (off + len) vs.length then (match AV.toD.toDL ((vs.drop off).take len) with
      | some ds => (match unbytes ds with
        | some bs => some (.d (.str bs))
        | none => none)
      | none => none) else none
    | _ => none)
  | _, _ => none
theorem acvS_sound {g : G} {s : St} {w : World} (h : SimH g s.hp w) {v : Value} {x y : AV} {src dst : TypeId} (hv : Rel g w v x) (ha : acvS P s src dst x = some y) :
    ∃ u, (convert src dst v).run P w = .ok u w ∧ Rel g w u y := by
  unfold acvS at ha
  split at ha
  · rename_i n off len cap hk
    split at ha
    · rename_i vs hn
      cases hc : Nat.ble (off + len) vs.length
      · rw [hc] at ha; cases ha
      · rw [hc] at ha
        simp only [cond_true] at ha
        have hle := Nat.le_of_ble_eq_true hc
        split at ha
        · rename_i ds hds
          split at ha
          · rename_i bs hbs
            simp only [Option.some.injEq] at ha; subst ha
            have hu : ∃ e, P.underlying src = some (.slice e) ∧ P.underlying dst = some .string ∧ P.underlying e = some (.int .u8) := by
              unfold cvK at hk
              split at hk
              · rename_i e h1 h2
                split at hk
                · rename_i h3; exact ⟨e, h1, h2, h3⟩
                · cases hk
              · cases hk
              · cases hk
              · cases hk
            obtain ⟨e, h1, h2, h3⟩ := hu
            obtain ⟨c, e', fr, hb, hl, hfr, hrel⟩ := h.ob n _ hn
            obtain ⟨ns, rfl, rfl⟩ := unbytes_ints hbs
            obtain ⟨t1, t2⟩ := toDL_get hds
            have hlen : ns.length = len := by simp at t1; omega
            cases hv with
            | @slc _ _ _ _ cap' hcap =>
              have hrun := run_convert_bytes_arg (P := P) w src e h1 h3 (g.ρ n) off len cap' ns hlen (fun i hi => by
                obtain ⟨x, hx1, hx2⟩ := t2 i (D.int .u8 ns[i]) (by simp [show i < ns.length by omega])
                rw [List.getElem?_take, if_pos (by omega), List.getElem?_drop] at hx1
                have hr := toD_rep (hrel (off + i) x hx1) hx2
                rw [cell_of hb]
                have hlt : off + i < c.size := by omega
                rw [Array.getD_eq_getD_getElem?, Array.getElem?_eq_getElem hlt, Option.getD_some] at hr
                rw [Array.getElem?_eq_getElem hlt]
                generalize c[off + i] = q at hr ⊢
                cases hr
                simp [show i < ns.length by omega]) dst h2
              refine ⟨_, hrun, .d ?_⟩
              rw [← strOfNums_data]
              exact .str
          · cases ha
        · cases ha
    · cases ha
  · cases ha

/-- A range over a text begins. -/
def arange (P : Program) (s : St) (d : Nat) (t : TypeId) (x : AV) : Option St :=
  match x with
  | .d (.str bs) => bif isStr P t && freshC s d (s.nmOf d) && ltb d s.n then some { s with tm := lset s.tm d (.ptr (s.nmOf d) 0), hp := lset s.hp (s.nmOf d) (.iter bs 0) } else none
  | _ => none
theorem arange_sound {g : G} {s s' : St} {a : Act} {w : World} (h : Sim g s a w) {d : Nat} {t : TypeId} {x : AV} {v : Value} (hx : Rel g w v x) (ha : arange P s d t x = some s') :
    ∃ u w' g', (Instr.range t v).run P w = .ok u w' ∧ Sim g' s' (a.put (some d) u) w' ∧ Ev (Own g s.hp) (Own g' s'.hp) g g' w w' ∧ Names g s.hp g' s'.hp := by
  unfold arange at ha
  generalize hnd : s.nmOf d = n at ha
  split at ha
  · rename_i bs
    cases hc : (isStr P t && freshC s d n && ltb d s.n)
    · rw [hc] at ha; cases ha
    · rw [hc] at ha
      simp only [cond_true, Option.some.injEq] at ha; subst ha
      simp only [Bool.and_eq_true] at hc
      obtain ⟨⟨h1, h2⟩, h3⟩ := hc
      have hd : d < s.n := Nat.le_of_ble_eq_true h3
      obtain ⟨hnt, hrf, hno⟩ := freshC_spec h2
      have hsame : ∀ m, m ≠ n → (g.setρ n w.heap.size).ρ m = g.ρ m ∧ (g.setρ n w.heap.size).τ m = g.τ m := fun m hm => by simp [G.setρ, hm]
      cases hx with
      | d hx =>
        cases hx with
        | @str b =>
          have hcell : ∀ b' o, g.S b' o → (w.alloc (.stringIter b 0)).cell? ⟨b', o, none⟩ = w.cell? ⟨b', o, none⟩ := fun b' o hs => World.cell?_alloc_lt _ _ _ (h.hp.lt hs)
          obtain ⟨hA, hB⟩ := h.hp.new hno hrf (.stringIter b 0) (.iter b.data.toList 0) (by simp) (by
            show (w.heap.push _)[_]? = _
            simp [G.setρ])
          refine ⟨_, _, g.setρ n w.heap.size, run_range_string w t b (isStr_spec h1), h.upd (g' := g.setρ n w.heap.size) d hd (fun _ _ hs => hs) hcell (fun i hi m hm => hsame m fun e => hnt i hi (e ▸ hm)) ?_ hA, hB, Names.ofTail (fun ob hob => by rw [hno] at hob; cases hob) hsame⟩
          have := Rel.ptr (g := g.setρ n w.heap.size) (w := w.iter b 0) (n := n) (off := 0)
          simpa [G.setρ] using this
  · cases ha
def decAt (bs : List UInt8) (pos : Nat) : Nat × Nat := Utf8.decode ⟨bs.toArray⟩ pos
/-- It goes on. -/
def anext (s : St) (d : Nat) (x : AV) : Option St :=
  match x with
  | .ptr n 0 => (match lk s.hp n with
    | some (.iter bs pos) => bif ltb d s.n then (if pos < bs.length then
        some { s with tm := lset s.tm d (.d (.tup [.bool true, .int .i64 pos, .int .i32 (decAt bs pos).1])), hp := lset s.hp n (.iter bs (pos + (decAt bs pos).2)) }
      else some { s with tm := lset s.tm d (.d (.tup [.bool false])) }) else none
    | _ => none)
  | _ => none
theorem anext_sound {g : G} {s s' : St} {a : Act} {w : World} (h : Sim g s a w) {d : Nat} {ty : TypeId} {x : AV} {v : Value} (hx : Rel g w v x) (ha : anext s d x = some s') :
    ∃ u w' g', (Instr.next v true ty).run P w = .ok u w' ∧ Sim g' s' (a.put (some d) u) w' ∧ Ev (Own g s.hp) (Own g' s'.hp) g g' w w' ∧ Names g s.hp g' s'.hp := by
  unfold anext at ha
  split at ha
  · rename_i n
    split at ha
    · rename_i bs pos hn
      cases hd : ltb d s.n
      · rw [hd] at ha; cases ha
      · rw [hd] at ha
        have hd : d < s.n := Nat.le_of_ble_eq_true hd
        simp only [cond_true] at ha
        have hb : w.heap[g.ρ n]? = some (.stringIter ⟨bs.toArray⟩ pos) := h.hp.ob n _ hn
        have hlt : g.ρ n < w.heap.size := (Array.getElem?_eq_some_iff.1 hb).1
        have hsz : (⟨bs.toArray⟩ : ByteArray).size = bs.length := by simp [ByteArray.size]
        cases hx with
        | ptr =>
          split at ha
          · rename_i hp
            simp only [Option.some.injEq] at ha; subst ha
            have hrun : (Instr.next (.pointer (some ⟨g.ρ n, 0, none⟩)) true ty).run P w = .ok (.tuple #[.bool true, .int .i64 pos, .int .i32 (decAt bs pos).1]) (wr w (g.ρ n) (.stringIter ⟨bs.toArray⟩ (pos + (decAt bs pos).2))) := by
              have hp' : pos < (⟨bs.toArray⟩ : ByteArray).size := by omega
              simp [Instr.next, getObj, setObj, Sem.run, hb, hp', goInt, decAt, wr]
            have hold : ∀ k, k ≠ g.ρ n → (wr w (g.ρ n) (.stringIter ⟨bs.toArray⟩ (pos + (decAt bs pos).2))).heap[k]? = w.heap[k]? := fun k hk => by rw [wr_heap hlt, if_neg (Ne.symm hk)]
            have hcell : ∀ b o, g.S b o → (wr w (g.ρ n) (.stringIter ⟨bs.toArray⟩ (pos + (decAt bs pos).2))).cell? ⟨b, o, none⟩ = w.cell? ⟨b, o, none⟩ := fun b o hs => cell_other (hold b fun e => h.hp.sep b o hs ⟨n, _, hn, e⟩)
            obtain ⟨hA, hB⟩ := h.hp.put hn (by simp) (.stringIter ⟨bs.toArray⟩ (pos + (decAt bs pos).2)) (.iter bs (pos + (decAt bs pos).2)) (by simp) (fun c e fr hc => by rw [hb] at hc; simp at hc) (by
              show (wr _ _ _).heap[_]? = _
              rw [wr_heap hlt, if_pos rfl])
            refine ⟨_, _, g, hrun, h.upd d hd (fun _ _ hs => hs) hcell (fun _ _ _ _ => ⟨rfl, rfl⟩) (.d (.tup rfl fun j c hj => ?_)) hA, hB, Names.ofPut (by simp)⟩
            have hjl := lt_of_get hj
            simp at hjl
            rcases j with _ | _ | _ | j
            · simp at hj; subst hj; exact .bool
            · simp at hj; subst hj; exact .int
            · simp at hj; subst hj; exact .int
            · omega
          · rename_i hp
            simp only [Option.some.injEq] at ha; subst ha
            have hrun : (Instr.next (.pointer (some ⟨g.ρ n, 0, none⟩)) true ty).run P w = .ok (.tuple #[.bool false]) w := by
              have hp' : ¬ pos < (⟨bs.toArray⟩ : ByteArray).size := by omega
              simp [Instr.next, getObj, Sem.run, hb, hp']
            refine ⟨_, _, g, hrun, h.upd d hd (fun _ _ hs => hs) (fun _ _ _ => rfl) (fun _ _ _ _ => ⟨rfl, rfl⟩) (.d (.tup rfl fun j c hj => ?_)) h.hp, Ev.refl _ _ _, Names.refl _ _⟩
            have hjl := lt_of_get hj
            simp at hjl
            subst hjl
            simp at hj; subst hj; exact .bool
    · cases ha
  · cases ha
end Go.Wl

