/- Values and memory told without addresses: all operations that leave memory as it is. -/
import Derived.Test.YthmiekppdhmbiaaWl6
set_option linter.unusedVariables false
set_option linter.unusedSimpArgs false
namespace Go.Wl
variable {P : Program}

/-- The bytes that a list of numbers is. -/
def unbytes : List D → Option (List UInt8)
  | [] => some []
  | .int .u8 n :: r => (match unbytes r with
    | some l => some (UInt8.ofNat n.toNat :: l)
    | none => none)
  | _ => none
theorem unbytes_u8 (bs : List UInt8) : unbytes (bs.map u8) = some bs := by
  induction bs with
  | nil => rfl
  | cons b r ih => simp [unbytes, u8, ih]
theorem unbytes_ints : ∀ {xs : List D} {bs : List UInt8}, unbytes xs = some bs → ∃ ns : List Int, xs = ns.map (D.int .u8) ∧ bs = ns.map fun n => UInt8.ofNat n.toNat
  | [], bs, h => by simp only [unbytes, Option.some.injEq] at h; subst h; exact ⟨[], rfl, rfl⟩
  | x :: r, bs, h => by
    unfold unbytes at h
    split at h
    · rename_i h0; cases h0
    · rename_i n r' h0
      simp only [List.cons.injEq] at h0
      obtain ⟨rfl, rfl⟩ := h0
      split at h
      · rename_i l hl
        simp only [Option.some.injEq] at h; subst h
        obtain ⟨ns, h1, h2⟩ := unbytes_ints hl
        exact ⟨n :: ns, by simp [h1], by simp [h2]⟩
      · cases h
    · cases h

inductive CV where
  | int (k : IntKind) | str | bytes | no
/-- What a conversion is. -/
def cvK (P : Program) (src dst : TypeId) : CV :=
  match P.underlying src, P.underlying dst with
  | some (.slice e), some .string => (match P.underlying e with
    | some (.int .u8) => .bytes
    | _ => .no)
  | some _, some (.int k) => .int k
  | some _, some .string => .str
  | _, _ => .no
def acv (P : Program) (src dst : TypeId) (x : AV) : Option AV :=
  match cvK P src dst with
  | .int k => (match x with
    | .d (.int _ n) => some (.d (.int k (k.wrap n)))
    | _ => none)
  | .str => (match x with
    | .d (.int _ n) => some (.d (.str (Utf8.encode n).data.toList))
    | .d (.str s) => some (.d (.str s))
    | _ => none)
  | .bytes => (match x.list with
    | some xs => (match unbytes xs with
      | some bs => some (.d (.str bs))
      | none => none)
    | none => none)
  | .no => none
theorem acv_sound {g : G} {w : World} {v : Value} {x y : AV} {src dst : TypeId} (hv : Rel g w v x) (ha : acv P src dst x = some y) :
    ∃ u, (convert src dst v).run P w = .ok u w ∧ Rel g w u y := by
  unfold acv at ha
  generalize hk : cvK P src dst = k at ha
  unfold cvK at hk
  cases k with
  | int k =>
    simp only at ha
    split at ha
    · rename_i k' n
      simp only [Option.some.injEq] at ha; subst ha
      cases hv with
      | d hr =>
        cases hr
        split at hk
        · split at hk <;> cases hk
        · rename_i ks kk h1 h2
          simp only [CV.int.injEq] at hk; subst hk
          exact ⟨_, by simp [convert, run_underlying h1, run_underlying h2, Conv.intToInt]; try rfl, .d .int⟩
        · cases hk
        · cases hk
    · cases ha
  | str =>
    simp only at ha
    have hu : ∃ s, P.underlying src = some s ∧ P.underlying dst = some .string := by
      split at hk
      · split at hk <;> cases hk
      · cases hk
      · rename_i s _ h1 h2; exact ⟨s, h1, h2⟩
      · cases hk
    obtain ⟨s0, h1, h2⟩ := hu
    split at ha
    · simp only [Option.some.injEq] at ha; subst ha
      cases hv with
      | d hr =>
        cases hr
        exact ⟨_, by simp [convert, run_underlying h1, run_underlying h2, Conv.intToString]; try rfl, .d .str⟩
    · simp only [Option.some.injEq] at ha; subst ha
      cases hv with
      | d hr =>
        cases hr
        exact ⟨_, by simp [convert, run_underlying h1, run_underlying h2]; try rfl, .d .str⟩
    · cases ha
  | bytes =>
    simp only at ha
    split at ha
    · rename_i xs hxs
      split at ha
      · rename_i bs hbs
        simp only [Option.some.injEq] at ha; subst ha
        have hu : ∃ e, P.underlying src = some (.slice e) ∧ P.underlying dst = some .string ∧ P.underlying e = some (.int .u8) := by
          split at hk
          · rename_i e h1 h2
            split at hk
            · rename_i h3; exact ⟨e, h1, h2, h3⟩
            · cases hk
          · cases hk
          · cases hk
          · cases hk
        obtain ⟨e, h1, h2, h3⟩ := hu
        obtain ⟨a, len, cap, rfl, hrep⟩ := list_rep hv hxs
        obtain ⟨ns, rfl, rfl⟩ := unbytes_ints hbs
        obtain ⟨e1, e2⟩ := rep_len hrep
        cases a with
        | none =>
          have hl : len = 0 := by
            cases hrep with
            | list sz vals hl hc hs hw hm hr =>
              rcases Nat.eq_zero_or_pos len with h | h
              · exact h
              · obtain ⟨b, o, h'⟩ := hs (by omega); cases h'
          have hn : ns = [] := by simp at e1; exact List.eq_nil_of_length_eq_zero (by omega)
          subst hn
          refine ⟨.string .empty, by simp [convert, run_underlying h1, run_underlying h2, run_underlying h3, Conv.bytesToString], ?_⟩
          have := Rep.str (S := g.S) (w := w) (s := ByteArray.empty)
          exact .d this
        | some ad =>
          have hrep' := hrep
          cases hrep with
          | list sz vals hl hc hs hw hm hr =>
            simp at e1
            by_cases h0 : 0 < cap
            · obtain ⟨b, o, h'⟩ := hs h0
              simp only [Option.some.injEq] at h'; subst h'
              have hrun := run_convert_bytes_arg (P := P) w src e h1 h3 b o len cap ns e1 (fun i hi => by
                have hi' : i < ns.length := by omega
                have hx : (ns.map (D.int .u8))[i]? = some (D.int .u8 ns[i]) := by simp [hi']
                have hsz : 1 = sz := hw _ (List.mem_of_getElem? hx)
                have h4 := (hm i _ 0 (D.int .u8 ns[i]) b o hx rfl rfl).2
                have h5 := hr i _ 0 (D.int .u8 ns[i]) hx rfl
                rw [← hsz] at h4
                simp only [Nat.mul_one, Nat.add_zero] at h4
                rw [h4]
                generalize vals i 0 = q at h5 ⊢
                cases h5
                simp [hi']) dst h2
              refine ⟨_, hrun, .d ?_⟩
              rw [← strOfNums_data]
              exact .str
            · have hn : ns = [] := List.eq_nil_of_length_eq_zero (by omega)
              subst hn
              have hl0 : len = 0 := by simpa using e1.symm
              subst hl0
              refine ⟨.string .empty, by simp [convert, run_underlying h1, run_underlying h2, run_underlying h3, Conv.bytesToString, loadCells, loadCellsFrom], ?_⟩
              have := Rep.str (S := g.S) (w := w) (s := ByteArray.empty)
              exact .d this
      · cases ha
    · cases ha
  | no => cases ha

def aun (op : UnOp) (x : AV) : Option AV :=
  match op, x with
  | .not, .d (.bool b) => some (.d (.bool (!b)))
  | .neg, .d (.int k n) => some (.d (.int k (k.wrap (0 - n))))
  | _, _ => none
theorem aun_sound {g : G} {w : World} {v : Value} {x y : AV} {op : UnOp} (hv : Rel g w v x) (ha : aun op x = some y) : ∃ u, (Op.unary op v).run P w = .ok u w ∧ Rel g w u y := by
  unfold aun at ha
  split at ha
  · simp only [Option.some.injEq] at ha; subst ha
    cases hv with
    | d hr => cases hr; exact ⟨_, by simp [Op.unary]; try rfl, .d .bool⟩
  · simp only [Option.some.injEq] at ha; subst ha
    cases hv with
    | d hr => cases hr; exact ⟨_, by simp only [Op.unary, Op.intArith]; try rfl, .d .int⟩
  · cases ha

def aext (x : AV) (i : Nat) : Option AV :=
  match x with
  | .tup vs => vs[i]?
  | .d (.tup vs) => (match vs[i]? with
    | some y => some (.d y)
    | none => none)
  | _ => none
theorem aext_sound {g : G} {w : World} {v : Value} {x y : AV} {i : Nat} (hv : Rel g w v x) (ha : aext x i = some y) : ∃ u, (Instr.extract v i).run P w = .ok u w ∧ Rel g w u y := by
  unfold aext at ha
  split at ha
  · cases hv with
    | @tup vs cs hl hr =>
      have hlt := lt_of_get ha
      have : i < vs.size := by omega
      have h := hr i y ha
      simp only [Array.getD_eq_getD_getElem?, Array.getElem?_eq_getElem this, Option.getD_some] at h
      exact ⟨vs[i], by simp [Instr.extract, this], h⟩
  · split at ha
    · rename_i z hz
      simp only [Option.some.injEq] at ha; subst ha
      cases hv with
      | d hd =>
        cases hd with
        | @tup vs cs hl hr =>
          have hlt := lt_of_get hz
          have : i < vs.size := by omega
          have h := hr i z hz
          simp only [Array.getD_eq_getD_getElem?, Array.getElem?_eq_getElem this, Option.getD_some] at h
          exact ⟨vs[i], by simp [Instr.extract, this], .d h⟩
    · cases ha
  · cases ha

/-- A value that holds nothing of our own, as data. -/
def AV.toD : AV → Option D
  | .d x => some x
  | .nils => some (.list [])
  | .lit xs => some (.list xs)
  | .rs xs _ => some (.list xs)
  | .sl _ xs => some (.list xs)
  | .agg cs => (match toDL cs with
    | some l => some (.agg l)
    | none => none)
  | .tup cs => (match toDL cs with
    | some l => some (.tup l)
    | none => none)
  | .func fn f c => (match toDL f, toDL c with
    | some l, some r => some (.func fn l r)
    | _, _ => none)
  | _ => none
where toDL : List AV → Option (List D)
  | [] => some []
  | x :: r => (match x.toD, toDL r with
    | some y, some l => some (y :: l)
    | _, _ => none)
theorem toDL_get : ∀ {cs : List AV} {ds : List D}, AV.toD.toDL cs = some ds → cs.length = ds.length ∧ ∀ (j : Nat) (d : D), ds[j]? = some d → ∃ c : AV, cs[j]? = some c ∧ c.toD = some d
  | [], ds, h => by simp only [AV.toD.toDL, Option.some.injEq] at h; subst h; simp
  | x :: r, ds, h => by
    unfold AV.toD.toDL at h
    split at h
    · rename_i y l h1 h2
      simp only [Option.some.injEq] at h; subst h
      obtain ⟨e, hr⟩ := toDL_get h2
      refine ⟨by simp [e], fun j d hj => ?_⟩
      cases j with
      | zero => simp at hj; subst hj; exact ⟨x, rfl, h1⟩
      | succ j => simp at hj; simpa using hr j d hj
    · cases h
theorem toD_rep {g : G} {w : World} {v : Value} {x : AV} (hv : Rel g w v x) : ∀ {d : D}, x.toD = some d → Rep g.S w v d := by
  induction hv with
  | d h => intro d hd; simp only [AV.toD, Option.some.injEq] at hd; subst hd; exact h
  | nils =>
    intro d hd; simp only [AV.toD, Option.some.injEq] at hd; subst hd
    exact .list 0 (fun _ _ => undef) rfl (Nat.le_refl _) (by simp) (by simp) (by simp) (by simp)
  | lit h => intro d hd; simp only [AV.toD, Option.some.injEq] at hd; subst hd; exact h
  | rs h hl => intro d hd; simp only [AV.toD, Option.some.injEq] at hd; subst hd; subst hl; exact rep_prefix h
  | sl h => intro d hd; simp only [AV.toD, Option.some.injEq] at hd; subst hd; exact h
  | agg hl _ ih =>
    intro d hd
    unfold AV.toD at hd
    split at hd
    · rename_i l h1
      simp only [Option.some.injEq] at hd; subst hd
      obtain ⟨e, hr⟩ := toDL_get h1
      exact .agg (by omega) fun j c hj => by obtain ⟨a, h2, h3⟩ := hr j c hj; exact ih j a h2 h3
    · cases hd
  | tup hl _ ih =>
    intro d hd
    unfold AV.toD at hd
    split at hd
    · rename_i l h1
      simp only [Option.some.injEq] at hd; subst hd
      obtain ⟨e, hr⟩ := toDL_get h1
      exact .tup (by omega) fun j c hj => by obtain ⟨a, h2, h3⟩ := hr j c hj; exact ih j a h2 h3
    · cases hd
  | func hf hc _ _ i1 i2 =>
    intro d hd
    unfold AV.toD at hd
    split at hd
    · rename_i l r h1 h2
      simp only [Option.some.injEq] at hd; subst hd
      obtain ⟨e1, r1⟩ := toDL_get h1
      obtain ⟨e2, r2⟩ := toDL_get h2
      exact .func (by omega) (by omega) (fun j c hj => by obtain ⟨a, h2, h3⟩ := r1 j c hj; exact i1 j a h2 h3) (fun j c hj => by obtain ⟨a, h2, h3⟩ := r2 j c hj; exact i2 j a h2 h3)
    · cases hd
  | _ => intro d hd; simp [AV.toD] at hd

def amkif (P : Program) (t : TypeId) (x : AV) : Option AV :=
  match tk P t, P.underlying t, x.toD with
  | .iface, _, _ => none
  | _, some _, some y => some (.d (.iface t y))
  | _, _, _ => none
theorem amkif_sound {g : G} {w : World} {v : Value} {x y : AV} {t : TypeId} (hv : Rel g w v x) (ha : amkif P t x = some y) : ∃ u, (Instr.makeInterface t v).run P w = .ok u w ∧ Rel g w u y := by
  unfold amkif at ha
  split at ha
  · cases ha
  · rename_i d z hu hz hk
    simp only [Option.some.injEq] at ha; subst ha
    refine ⟨.iface t v, ?_, .d (.iface (toD_rep hv hz))⟩
    simp only [Instr.makeInterface, Sem.run_bind, run_underlying hu, Result.andThen_ok]
    cases d <;> first | rfl | (exfalso; apply hk; simp [tk, hu])
  · cases ha

def alen (P : Program) (t : TypeId) (x : AV) : Option AV :=
  match tk P t, x with
  | .str, .d (.str bs) => some (.d (.int .i64 (bs.length : Int)))
  | .slice, .slc _ _ len _ => some (.d (.int .i64 (len : Int)))
  | .slice, x => (match x.list with
    | some xs => some (.d (.int .i64 (xs.length : Int)))
    | none => none)
  | .arr n, _ => some (.d (.int .i64 (n : Int)))
  | _, _ => none
theorem alen_sound {g : G} {w : World} {v : Value} {x y : AV} {t ty : TypeId} (hv : Rel g w v x) (ha : alen P t x = some y) : ∃ u, (Builtin.len_ #[t] ty #[v]).run P w = .ok u w ∧ Rel g w u y := by
  unfold alen at ha
  split at ha
  · rename_i bs hk
    simp only [Option.some.injEq] at ha; subst ha
    cases hv with
    | d hr =>
      cases hr with
      | @str s =>
        have l1 : s.data.toList.length = s.size := Array.length_toList
        rw [l1]
        exact ⟨_, by simp [Builtin.len_, run_underlying (tk_spec hk)]; try rfl, .d .int⟩
  · rename_i n off len cap hk
    simp only [Option.some.injEq] at ha; subst ha
    cases hv with
    | slc =>
      obtain ⟨e, hu⟩ := tk_spec hk
      exact ⟨_, by simp [Builtin.len_, run_underlying hu]; try rfl, .d .int⟩
  · rename_i hk _
    split at ha
    · rename_i xs hxs
      simp only [Option.some.injEq] at ha; subst ha
      obtain ⟨a, len, cap, rfl, hrep⟩ := list_rep hv hxs
      obtain ⟨e1, e2⟩ := rep_len hrep
      obtain ⟨e, hu⟩ := tk_spec hk
      rw [e1]
      exact ⟨_, by simp [Builtin.len_, run_underlying hu]; try rfl, .d .int⟩
    · cases ha
  · rename_i n _ hk
    simp only [Option.some.injEq] at ha; subst ha
    obtain ⟨e, hu⟩ := tk_spec hk
    exact ⟨_, by simp [Builtin.len_, run_underlying hu]; try rfl, .d .int⟩
  · cases ha
def acap (x : AV) : Option AV := match x with
  | .rs xs ys => some (.d (.int .i64 ((xs.length + ys.length : Nat) : Int)))
  | .lit xs => some (.d (.int .i64 (xs.length : Int)))
  | _ => none
theorem acap_sound {g : G} {w : World} {v : Value} {x y : AV} {t ty : TypeId} (hk : tk P t = .slice) (hv : Rel g w v x) (ha : acap x = some y) : ∃ u, (Builtin.cap_ #[t] ty #[v]).run P w = .ok u w ∧ Rel g w u y := by
  obtain ⟨e, hu⟩ := tk_spec hk
  unfold acap at ha
  split at ha
  · simp only [Option.some.injEq] at ha; subst ha
    cases hv with
    | rs h hl =>
      obtain ⟨e1, _⟩ := rep_len h
      rw [List.length_append] at e1
      rw [e1]
      exact ⟨_, by simp [Builtin.cap_, run_underlying hu]; try rfl, .d .int⟩
  · simp only [Option.some.injEq] at ha; subst ha
    cases hv with
    | lit h =>
      obtain ⟨e1, _⟩ := rep_len h
      rw [e1]
      exact ⟨_, by simp [Builtin.cap_, run_underlying hu]; try rfl, .d .int⟩
  · cases ha
end Go.Wl

