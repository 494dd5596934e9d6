/- Values and memory told without addresses: slicing, numbers, texts. -/
import Derived.Test.YthmiekppdhmbiaaWl4
import Derived.Laws.Cover1
set_option linter.unusedVariables false
set_option linter.unusedSimpArgs false
namespace Go.Wl
variable {P : Program}

def ibnd : Option AV → Nat → Option Nat
  | none, d => some d
  | some (.d (.int _ i)), _ => if 0 ≤ i then some i.toNat else none
  | _, _ => none
def BV (o : Option Value) (d r : Nat) : Prop := match o with
  | none => r = d
  | some v => ∃ k, v = .int k r
inductive RelO (g : G) (w : World) : Option Value → Option AV → Prop where
  | none : RelO g w none none
  | some {v x} (h : Rel g w v x) : RelO g w (some v) (some x)
theorem ibnd_spec {g : G} {w : World} {o : Option Value} {x : Option AV} {d r : Nat} (h : RelO g w o x) (hb : ibnd x d = some r) : BV o d r ∧ o.isSome = x.isSome := by
  cases h with
  | none => simp only [ibnd, Option.some.injEq] at hb; subst hb; exact ⟨rfl, rfl⟩
  | some h =>
    cases h with
    | d h =>
      cases h with
      | @int k i =>
        simp only [ibnd] at hb
        split at hb
        · rename_i h0
          simp only [Option.some.injEq] at hb; subst hb
          exact ⟨⟨k, by rw [Int.toNat_of_nonneg h0]⟩, rfl⟩
        · cases hb
      | _ => simp [ibnd] at hb
    | _ => simp [ibnd] at hb
theorem bounds_run (w : World) (isS : Bool) (len cap l h m : Nat) (lo hi mx : Option Value) (hlo : BV lo 0 l) (hhi : BV hi len h) (hmx : BV mx cap m) (h1 : l ≤ h) (h2 : h ≤ m) (h3 : m ≤ cap) (hm : mx.isSome = true → hi.isSome = true) :
    (Instr.sliceBounds isS len cap lo hi mx).run P w = .ok (l, h, m) w := by
  have hb : ∀ (k : IntKind) (i y : Nat) (code : BoundsCode), i ≤ y → (Instr.sliceBound (.int k (i : Int)) y code).run P w = .ok i w := fun k i y code hle => by
    rw [run_sliceBound w k i y code (by omega) (by omega)]; simp
  cases mx with
  | none =>
    simp only [BV] at hmx; subst hmx
    cases hi with
    | none =>
      simp only [BV] at hhi; subst hhi
      cases lo with
      | none => simp only [BV] at hlo; subst hlo; simp [Instr.sliceBounds]
      | some v => obtain ⟨k, rfl⟩ := hlo; simp [Instr.sliceBounds, hb k l _ _ h1]
    | some u =>
      obtain ⟨ku, rfl⟩ := hhi
      cases lo with
      | none => simp only [BV] at hlo; subst hlo; simp [Instr.sliceBounds, hb ku h _ _ h2]
      | some v => obtain ⟨k, rfl⟩ := hlo; simp [Instr.sliceBounds, hb ku h _ _ h2, hb k l _ _ h1]
  | some x =>
    obtain ⟨km, rfl⟩ := hmx
    cases hi with
    | none => simp at hm
    | some u =>
      obtain ⟨ku, rfl⟩ := hhi
      cases lo with
      | none => simp only [BV] at hlo; subst hlo; simp [Instr.sliceBounds, hb ku h _ _ h2, hb km m _ _ h3]
      | some v => obtain ⟨k, rfl⟩ := hlo; simp [Instr.sliceBounds, hb ku h _ _ h2, hb k l _ _ h1, hb km m _ _ h3]

/-- A part of a slice stands for a part of its list. -/
theorem rep_slice {S : Nat → Nat → Prop} {w : World} {a : Option Addr} {len cap : Nat} {xs : List D} (hr : Rep S w (.slice a len cap) (.list xs)) {l h m k : Nat} (h1 : l ≤ h) (h2 : h ≤ m) (h3 : m ≤ cap)
    (hx : h ≤ xs.length) (hk : l = 0 ∨ ∀ x ∈ xs, x.width = k) : Rep S w (sliced a l h m k) (.list ((xs.take h).drop l)) := by
  cases hr with
  | list sz vals hl hc hs hw hm hr =>
    unfold sliced
    have hget : ∀ i x, ((xs.take h).drop l)[i]? = some x → xs[l + i]? = some x ∧ l + i < h := by
      intro i x hi
      have := lt_of_get hi
      simp only [List.length_drop, List.length_take] at this
      rw [List.getElem?_drop, List.getElem?_take, if_pos (by omega)] at hi
      exact ⟨hi, by omega⟩
    refine .list sz (fun i j => vals (l + i) j) (by simp; omega) (by omega) (fun h0 => ?_) (fun x hx => hw x (List.mem_of_mem_take (List.mem_of_mem_drop hx))) (fun i x j c b o hi hj ha => ?_) (fun i x j c hi hj => hr (l + i) x j c (hget i x hi).1 hj)
    · obtain ⟨b, o, rfl⟩ := hs (by omega)
      by_cases e : m = l
      · exact ⟨b, o, by rw [if_pos e]⟩
      · exact ⟨b, o + l * k, by rw [if_neg e]; simp [Addr.add_lit]⟩
    · obtain ⟨hi', hlt⟩ := hget i x hi
      obtain ⟨b', o', rfl⟩ := hs (by omega)
      rw [if_neg (by omega)] at ha
      simp only [Option.map_some, Addr.add_lit, Option.some.injEq, Addr.mk.injEq] at ha
      obtain ⟨rfl, rfl, _⟩ := ha
      have := hm (l + i) x j c b' o' hi' hj rfl
      have e : o' + l * k + (i * sz + j) = o' + ((l + i) * sz + j) := by
        rcases hk with rfl | hk
        · simp
        · have e1 : sz = k := (hw x (List.mem_of_getElem? hi')).symm.trans (hk x (List.mem_of_getElem? hi'))
          rw [e1, Nat.add_mul]; omega
      rw [e]; exact this

def asliceL (P : Program) (t : TypeId) (x : AV) (lo hi mx : Option AV) : Option AV :=
  match x.list, el P t with
    | some xs, some (_, k) => (match ibnd lo 0, ibnd hi xs.length with
      | some l, some h => if l ≤ h ∧ h ≤ xs.length ∧ (Nat.beq l 0 || xs.all fun x => Nat.beq x.width k) = true then (match mx with
        | some y => (match ibnd (some y) 0 with
          | some m => if m = h ∧ hi.isSome = true then some (.lit ((xs.take h).drop l)) else none
          | none => none)
        | none => (match hi, x with
          | none, .sl n xs => some (.sl n (xs.drop l))
          | none, .lit xs => some (.lit (xs.drop l))
          | _, _ => some (.d (.list ((xs.take h).drop l))))) else none
      | _, _ => none)
    | _, _ => none
/-- A part of a text, or of a slice. -/
def aslice (P : Program) (t : TypeId) (x : AV) (lo hi mx : Option AV) : Option AV :=
  match x with
  | .d (.str bs) => bif isStr P t && mx.isNone then (match ibnd lo 0, ibnd hi bs.length with
    | some l, some h => if l ≤ h ∧ h ≤ bs.length then some (.d (.str ((bs.take h).drop l))) else none
    | _, _ => none) else none
  | .rs xs ys => (match el P t, mx with
    | some (_, k), none => (match ibnd lo 0, ibnd hi xs.length with
      | some l, some h => if l ≤ h ∧ h ≤ (xs ++ ys).length ∧ (Nat.beq l 0 || (xs ++ ys).all fun x => Nat.beq x.width k) = true then some (.d (.list (((xs ++ ys).take h).drop l))) else none
      | _, _ => none)
    | _, _ => none)
  | .slc n off len cap => (match el P t, ibnd lo 0, ibnd hi len, ibnd mx cap with
    | some (_, k), some l, some h, some m => if l ≤ h ∧ h ≤ m ∧ m ≤ cap ∧ (mx.isNone || hi.isSome) = true ∧ l < m then some (.slc n (off + l * k) (h - l) (m - l)) else none
    | _, _, _, _ => none)
  | .ptr n off => (match arr P t with
    | some (len, k, _) => (match ibnd lo 0, ibnd hi len, ibnd mx len with
      | some l, some h, some m => if l ≤ h ∧ h ≤ m ∧ m ≤ len ∧ (mx.isNone || hi.isSome) = true then some (.slc n (if m = l then off else off + l * k) (h - l) (m - l)) else none
      | _, _, _ => none)
    | none => none)
  | x => asliceL P t x lo hi mx
theorem sliceAt_list {t e k : Nat} (hel : el P t = some (e, k)) (w : World) (a : Option Addr) (len cap l h m : Nat) (lo hi mx : Option Value)
    (hlo : BV lo 0 l) (hhi : BV hi len h) (hmx : BV mx cap m) (h1 : l ≤ h) (h2 : h ≤ m) (h3 : m ≤ cap) (hm : mx.isSome = true → hi.isSome = true) :
    (Instr.sliceAt t (.slice a len cap) lo hi mx).run P w = .ok (sliced a l h m k) w := by
  obtain ⟨hu, i', hi', rfl⟩ := el_spec hel
  simp only [Instr.sliceAt, Sem.run_bind, run_underlying hu, Result.andThen_ok, Instr.slice, bounds_run w true len cap l h m lo hi mx hlo hhi hmx h1 h2 h3 hm]
  simp [sizeOf, typeInfo, hi', sliced]
theorem sliceAt_arr {t n k : Nat} {ab : Bool} (harr : arr P t = some (n, k, ab)) (w : World) (b o l h m : Nat) (lo hi mx : Option Value)
    (hlo : BV lo 0 l) (hhi : BV hi n h) (hmx : BV mx n m) (h1 : l ≤ h) (h2 : h ≤ m) (h3 : m ≤ n) (hm : mx.isSome = true → hi.isSome = true) :
    (Instr.sliceAt t (.pointer (some ⟨b, o, none⟩)) lo hi mx).run P w = .ok (.slice (some ⟨b, if m = l then o else o + l * k, none⟩) (h - l) (m - l)) w := by
  obtain ⟨e, hu, hag⟩ := arr_spec harr
  simp only [Instr.sliceAt, Sem.run_bind, run_underlying hu, Result.andThen_ok, Instr.sureAddr, Sem.run_pure, bounds_run w false n n l h m lo hi mx hlo hhi hmx h1 h2 h3 hm, (ag_spec hag w).1]
  by_cases e : m = l <;> simp [e, Addr.add_lit]
theorem sliceAt_str {t : TypeId} (hs : isStr P t = true) (w : World) (s : ByteArray) (l h : Nat) (lo hi : Option Value)
    (hlo : BV lo 0 l) (hhi : BV hi s.size h) (h1 : l ≤ h) (h2 : h ≤ s.size) :
    (Instr.sliceAt t (.string s) lo hi none).run P w = .ok (.string (s.extract l h)) w := by
  simp only [Instr.sliceAt, Sem.run_bind, run_underlying (isStr_spec hs), Result.andThen_ok, Instr.slice]
  simp [bounds_run w false s.size s.size l h s.size lo hi none hlo hhi rfl h1 h2 (Nat.le_refl _) (by simp)]

theorem aslice_sound {g : G} {w : World} {v : Value} {x y : AV} {t : TypeId} {lo hi mx : Option Value} {lo' hi' mx' : Option AV} (hv : Rel g w v x) (hlo : RelO g w lo lo') (hhi : RelO g w hi hi') (hmx : RelO g w mx mx')
    (ha : aslice P t x lo' hi' mx' = some y) : ∃ u, (Instr.sliceAt t v lo hi mx).run P w = .ok u w ∧ Rel g w u y := by
  have hgen : ∀ xs, x.list = some xs → asliceL P t x lo' hi' mx' = some y → ∃ u, (Instr.sliceAt t v lo hi mx).run P w = .ok u w ∧ Rel g w u y := by
    intro xs hxs ha
    simp only [asliceL, hxs] at ha
    split at ha
    · rename_i xs0 e k heq hel
      simp only [Option.some.injEq] at heq; subst heq
      split at ha
      · rename_i l h hl hh
        split at ha
        · rename_i hb
          obtain ⟨a, len, cap, rfl, hrep⟩ := list_rep hv hxs
          obtain ⟨e1, e2⟩ := rep_len hrep
          obtain ⟨b1, _⟩ := ibnd_spec hlo hl
          obtain ⟨b2, s2⟩ := ibnd_spec hhi hh
          rw [e1] at b2
          have hk : l = 0 ∨ ∀ x ∈ xs, x.width = k := by
            have := hb.2.2
            simp only [Bool.or_eq_true, List.all_eq_true] at this
            exact this.imp (fun h => Nat.eq_of_beq_eq_true h) (fun h x hx => Nat.eq_of_beq_eq_true (h x hx))
          split at ha
          · rename_i z
            split at ha
            · rename_i m hm
              split at ha
              · rename_i hmh
                simp only [Option.some.injEq] at ha; subst ha
                obtain ⟨b3, s3⟩ := ibnd_spec hmx hm
                obtain ⟨rfl, hsome⟩ := hmh
                have b3' : BV mx cap m := by
                  cases hmx with
                  | some _ => exact b3
                refine ⟨_, sliceAt_list hel w a len cap l m m lo hi mx b1 b2 b3' hb.1 (Nat.le_refl _) (by omega) (fun _ => by rw [s2]; exact hsome), ?_⟩
                have := rep_slice hrep hb.1 (Nat.le_refl m) (show m ≤ cap by omega) hb.2.1 hk
                unfold sliced at this ⊢
                exact .lit this
              · cases ha
            · cases ha
          · cases hmx
            have hrun := sliceAt_list hel w a len cap l h cap lo hi none b1 b2 rfl hb.1 (by omega) (Nat.le_refl _) (by simp)
            have hR := rep_slice hrep hb.1 (show h ≤ cap by omega) (Nat.le_refl _) hb.2.1 hk
            refine ⟨_, hrun, ?_⟩
            split at ha
            · rename_i n xs' _
              simp only [Option.some.injEq] at ha; subst ha
              simp only [AV.list, Option.some.injEq] at hxs; subst hxs
              simp only [ibnd, Option.some.injEq] at hh; subst hh
              rw [List.take_length] at hR
              cases hv with
              | sl h0 hx hc hp =>
                unfold sliced at hR ⊢
                refine .sl hR (fun x h => hx x (List.mem_of_mem_drop h)) (by omega) fun hroom => ?_
                obtain ⟨b, o, rfl, e3, e4⟩ := hp hroom
                refine ⟨b, o + l * k, by rw [if_neg (by omega)]; simp [Addr.add_lit], e3, ?_⟩
                have hlen : l ≤ xs'.length := hb.1
                have hsz : l = 0 ∨ (g.τ n).sz = k ∨ xs'.length = 0 := by
                  rcases hk with hk | hk
                  · exact .inl hk
                  · right
                    by_cases hz : xs'.length = 0
                    · exact .inr hz
                    · left
                      have h1 : xs'[0] ∈ xs' := List.getElem_mem (by omega)
                      exact (hx _ h1).symm.trans (hk _ h1)
                rw [e1] at *
                rcases hsz with rfl | hsz | hsz
                · simp only [Nat.zero_mul, Nat.add_zero, Nat.sub_zero]; exact e4
                · rw [hsz] at e4 ⊢
                  rw [Nat.add_assoc, ← Nat.add_mul]; rw [show l + (len - l) = len by omega]; exact e4
                · have : l = 0 := by omega
                  subst this; simp only [Nat.zero_mul, Nat.add_zero, Nat.sub_zero]; exact e4
            · rename_i xs' _
              simp only [Option.some.injEq] at ha; subst ha
              simp only [AV.list, Option.some.injEq] at hxs; subst hxs
              simp only [ibnd, Option.some.injEq] at hh; subst hh
              rw [List.take_length] at hR
              cases hv with
              | lit h0 =>
                unfold sliced at hR ⊢
                rw [show len - l = xs'.length - l by omega] at hR ⊢
                exact .lit hR
            · simp only [Option.some.injEq] at ha; subst ha
              exact .d hR
        · cases ha
      · cases ha
    · cases ha
  have hrs : ∀ xs ys, x = .rs xs ys → aslice P t x lo' hi' mx' = some y → ∃ u, (Instr.sliceAt t v lo hi mx).run P w = .ok u w ∧ Rel g w u y := by
    rintro xs ys rfl ha
    simp only [aslice] at ha
    split at ha
    · rename_i e k hel _
      cases hmx
      split at ha
      · rename_i l h hl hh
        split at ha
        · rename_i hb
          simp only [Option.some.injEq] at ha; subst ha
          cases hv with
          | @rs a len cap _ _ hr hlen =>
            subst hlen
            obtain ⟨e1, _⟩ := rep_len hr
            obtain ⟨b1, _⟩ := ibnd_spec hlo hl
            obtain ⟨b2, _⟩ := ibnd_spec hhi hh
            have hk : l = 0 ∨ ∀ x ∈ (xs ++ ys), x.width = k := by
              have := hb.2.2
              simp only [Bool.or_eq_true, List.all_eq_true] at this
              exact this.imp (fun h => Nat.eq_of_beq_eq_true h) (fun h x hx => Nat.eq_of_beq_eq_true (h x hx))
            exact ⟨_, sliceAt_list hel w a xs.length cap l h cap lo hi none b1 b2 rfl hb.1 (by omega) (Nat.le_refl _) (by simp), .d (rep_slice hr hb.1 (show h ≤ cap by omega) (Nat.le_refl _) hb.2.1 hk)⟩
        · cases ha
      · cases ha
    · cases ha
  cases x with
  | d x =>
    cases x with
    | str bs =>
      simp only [aslice] at ha
      cases hs : (isStr P t && mx'.isNone)
      · rw [hs] at ha; cases ha
      · rw [hs] at ha
        simp only [cond_true] at ha
        simp only [Bool.and_eq_true, Option.isNone_iff_eq_none] at hs
        obtain ⟨hs, rfl⟩ := hs
        cases hmx
        split at ha
        · rename_i l h hl hh
          split at ha
          · rename_i hb
            simp only [Option.some.injEq] at ha; subst ha
            cases hv with
            | d hr =>
              cases hr with
              | @str s =>
                obtain ⟨b1, _⟩ := ibnd_spec hlo hl
                obtain ⟨b2, _⟩ := ibnd_spec hhi hh
                have hsz : s.data.toList.length = s.size := Array.length_toList
                rw [hsz] at b2 hb
                refine ⟨_, sliceAt_str hs w s l h lo hi b1 b2 hb.1 hb.2, ?_⟩
                have e : (s.data.toList.take h).drop l = (s.extract l h).data.toList := by simp [List.drop_take]
                rw [e]
                exact .d .str
          · cases ha
        · cases ha
    | list xs => exact hgen xs rfl ha
    | _ => simp [aslice, asliceL, AV.list] at ha
  | nils => exact hgen [] rfl ha
  | lit xs => exact hgen xs rfl ha
  | rs xs ys => exact hrs xs ys rfl ha
  | sl n xs => exact hgen xs rfl ha
  | slc n off len cap =>
    simp only [aslice] at ha
    split at ha
    · rename_i e k l h m hel hl hh hm
      split at ha
      · rename_i hb
        simp only [Option.some.injEq] at ha; subst ha
        cases hv with
        | @slc _ _ _ _ cap' hcc =>
          obtain ⟨b1, _⟩ := ibnd_spec hlo hl
          obtain ⟨b2, s2⟩ := ibnd_spec hhi hh
          obtain ⟨b3, s3⟩ := ibnd_spec hmx hm
          obtain ⟨q1, q2, q3, q4, q5⟩ := hb
          have hex : ∃ m', BV mx cap' m' ∧ m ≤ m' ∧ m' ≤ cap' := by
            cases hmx with
            | none => simp only [BV] at b3; subst b3; exact ⟨cap', rfl, hcc, Nat.le_refl _⟩
            | some _ => exact ⟨m, b3, Nat.le_refl _, by omega⟩
          obtain ⟨m', e1, e2, e3⟩ := hex
          refine ⟨_, sliceAt_list hel w _ _ _ l h m' lo hi mx b1 b2 e1 q1 (by omega) e3 (fun hs => ?_), ?_⟩
          · rw [s3] at hs; rw [s2]
            cases mx' <;> simp_all
          · unfold sliced
            simp only [if_neg (show ¬ m' = l by omega), Option.map_some, Addr.add_lit]
            exact .slc (by omega)
      · cases ha
    · cases ha
  | ptr n off =>
    simp only [aslice] at ha
    split at ha
    · rename_i len k b harr
      split at ha
      · rename_i l h m hl hh hm
        split at ha
        · rename_i hb
          simp only [Option.some.injEq] at ha; subst ha
          cases hv with
          | ptr =>
            obtain ⟨b1, _⟩ := ibnd_spec hlo hl
            obtain ⟨b2, s2⟩ := ibnd_spec hhi hh
            obtain ⟨b3, s3⟩ := ibnd_spec hmx hm
            refine ⟨_, sliceAt_arr harr w _ _ l h m lo hi mx b1 b2 b3 hb.1 hb.2.1 hb.2.2.1 (fun hs => ?_), .slc (Nat.le_refl _)⟩
            have := hb.2.2.2
            rw [s3] at hs; rw [s2]
            cases mx' <;> simp_all
        · cases ha
      · cases ha
    · cases ha
  | _ => simp [aslice, asliceL, AV.list] at ha
end Go.Wl

