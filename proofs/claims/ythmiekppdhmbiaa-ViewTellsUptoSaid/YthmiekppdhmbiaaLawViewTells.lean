/- The statement ViewTellsUptoSaid: for every input of bulk at most 1048576 the law returns true, and what was handed in reads as it did. -/
import Derived.Test.YthmiekppdhmbiaaV24
import Derived.Test.YthmiekppdhmbiaaRows
import Derived.Test.YthmiekppdhmbiaaOpn
import Derived.WalkKit
import Derived.ProofKit
import Derived.OpenShut
import Derived.ShutString
import Derived.ChangeOld
import Derived.Below
import Derived.JoinedCond
namespace Go.Proofs.Ythmiekppdhmbiaa.lawViewTells
open Go.ChangeShapes Go.WideShapes Go.ChangeAt Go.RowKit Go.Wl Go.Proofs.Ythmiekppdhmbiaa.o
open Go.ChangeMaps (open_string shut_string)
set_option linter.unusedVariables false

theorem own : ownKnob Try.prog.godebug = none := by kernel_rfl
theorem laidOut : laidOutB Try.prog = true := by kernel_rfl

theorem contract (H : Type) (enc : TypeId × Value → H) (W : World) (base : Nat) (args : Array Value) (ds gs : List (DataW H)) (before : List MemPlace)
    (hval0 : ∀ (j : Nat) t v, Try.f3.params[j]? = some t → args[j]? = some v → Value.okWide Try.prog W .any base t v)
    (hW : DataW.Whole enc Try.prog Try.f3.params.toList Rows.viewTellsSpec.vars false W args.toList ds gs before) (hk : Rows.uptoSmall H (ds ++ gs) = true) :
    Calls Try.prog 3 args W fun e W' => ∃ v, e = .returned v ∧ Rows.viewTellsSpec.post enc Try.prog Try.f3 false true false false W args v W' := by
  have hval : ∀ (j : Nat) t v, Try.f3.params[j]? = some t → args[j]? = some v → Value.okWide Try.prog W .any base t v := hval0
  have hW' := hW
  obtain ⟨p, q, hA0, hV, rfl, hfz, hnd⟩ := hW
  have hA : DataW.TrodAll enc Try.prog W 0 (fun _ => true) true Try.f3.params.toList args.toList ds p := hA0
  rw [Try.params3] at hA hval
  obtain ⟨v0, vs0, d0, ds0, p0, q0, hargs, rfl, rfl, h0, r0⟩ := trodAll_cons hA
  obtain ⟨v1, vs1, d1, ds1, p1, q1, rfl, rfl, rfl, h1, r1⟩ := trodAll_cons r0
  obtain ⟨v2, vs2, d2, ds2, p2, q2, rfl, rfl, rfl, h2, r2⟩ := trodAll_cons r1
  obtain ⟨v3, vs3, d3, ds3, p3, q3, rfl, rfl, rfl, h3, r3⟩ := trodAll_cons r2
  obtain ⟨v4, vs4, d4, ds4, p4, q4, rfl, rfl, rfl, h4, r4⟩ := trodAll_cons r3
  obtain ⟨v5, vs5, d5, ds5, p5, q5, rfl, rfl, rfl, h5, r5⟩ := trodAll_cons r4
  obtain ⟨rfl, rfl, rfl⟩ := trodAll_nil r5
  obtain rfl : args = #[v0, v1, v2, v3, v4, v5] := by cases args; simp_all
  obtain ⟨rfl, rfl⟩ := trodVars_none hV
  simp only [List.append_nil] at hk hW'
  have hbulk : Rows.uptoBulkAll [d0, d1, d2, d3, d4, d5] ≤ 1048576 := of_decide_eq_true hk
  simp only [Rows.uptoBulkAll] at hbulk
  have k0 := h0
  have lt0 : ∀ x ∈ p0, x.block < W.heap.size := by obtain ⟨m, hm⟩ := k0; exact DataW.trod_lt m _ _ _ hm
  obtain ⟨xs0, ok0, rep0⟩ := open_struct (sh := .struct [.str, .int .u32, .int .u32, .int .u32, .bool, .list (.struct shHd)]) 40 (by kernel_rfl) Try.underlying25 (hval 0 25 v0 rfl rfl) h0
  simp only [Ok, OkL] at ok0
  obtain ⟨_, _, rfl, ⟨fnm, rfl, _⟩, _, _, rfl, ⟨fva, rfl, hfva⟩, _, _, rfl, ⟨fnx, rfl, hfnx⟩, _, _, rfl, ⟨fup, rfl, hfup⟩, _, _, rfl, ⟨fgo, rfl⟩, _, _, rfl, ⟨fls, rfl, hfl0, hfls⟩, rfl⟩ := ok0
  obtain ⟨fva, rfl, _⟩ := i32_nat hfva
  obtain ⟨fnx, rfl, _⟩ := i32_nat hfnx
  obtain ⟨fup, rfl, _⟩ := i32_nat hfup
  obtain ⟨fls, rfl, hfok⟩ := list_hd (l := fls) (m := Rows.uptoBulk d0) (by omega) (by simpa only [Ok, OkL] using hfls)
  rw [List.length_map] at hfl0
  obtain ⟨read, rfl, rfl, rfl⟩ := open_bool Try.underlying4 (hval 1 4 v1 rfl rfl) h1
  have k2 := h2
  have lt2 : ∀ x ∈ p2, x.block < W.heap.size := by obtain ⟨m, hm⟩ := k2; exact DataW.trod_lt m _ _ _ hm
  obtain ⟨xs2, ok2, rep2⟩ := open_struct (sh := .struct [.str, .int .u32, .bool, .list (.int .u32), .list (.list .str)]) 40 (by kernel_rfl) Try.underlying29 (hval 2 29 v2 rfl rfl) h2
  simp only [Ok, OkL] at ok2
  obtain ⟨_, _, rfl, ⟨box, rfl, hbox⟩, _, _, rfl, ⟨va, rfl, hva⟩, _, _, rfl, ⟨rd, rfl⟩, _, _, rfl, ⟨l, rfl, hl, hle⟩, _, _, rfl, ⟨fl, rfl, hfl, _⟩, rfl⟩ := ok2
  obtain ⟨va, rfl, _⟩ := i32_nat hva
  obtain ⟨u, rfl, hu⟩ := list_u32 hle
  rw [List.length_map] at hl
  obtain ⟨uid, rfl, rfl, rfl, w3⟩ := open_int Try.underlying22 (hval 3 22 v3 rfl rfl) h3
  have k4 := h4
  have lt4 : ∀ x ∈ p4, x.block < W.heap.size := by obtain ⟨m, hm⟩ := k4; exact DataW.trod_lt m _ _ _ hm
  obtain ⟨x4, ok4, rep4⟩ := open_list (sh := .list (.struct [.int .u32, .int .u32])) 40 (by kernel_rfl) Try.underlying30 (hval 4 30 v4 rfl rfl) h4
  simp only [Ok] at ok4
  obtain ⟨rs, hrs0, hrl, hrs⟩ := ok4
  cases hrs0
  obtain ⟨rs, rfl, _⟩ := list_rg (l := rs) (m := Rows.uptoBulk d4) (by simpa only [Ok, OkL] using hrs)
  rw [List.length_map] at hrl
  obtain ⟨by_, rfl, rfl, rfl⟩ := open_bool Try.underlying4 (hval 5 4 v5 rfl rfl) h5
  clear hA0 hval0
  obtain ⟨uid, rfl, huid⟩ := i32_nat w3
  refine ((pu_law (tells_con ⟨fnm, fva, fnx, fup, fgo, fls⟩ read box va rd u fl uid rs by_ ⟨by show fls.length < _; omega, hfok⟩ (by omega) (by omega)) W [v0, .bool read, v2, .int .u32 uid, v4, .bool by_] rfl (reps_cons rep0 (reps_cons .bool (reps_cons rep2 (reps_cons .int (reps_cons rep4 (reps_cons .bool reps_nil)))))))).mono fun e W' ⟨he, bel⟩ => ?_
  subst he
  exact ⟨_, rfl, _, _, _, [], _, [], hW', trodAll_mk1 (shut_bool Try.underlying4 _), (trodAll_cons_mk (Below.trod laidOut (by kernel_rfl) (of_decide_eq_true (by kernel_rfl)) k0 bel lt0) (trodAll_cons_mk (shut_bool Try.underlying4 read) (trodAll_cons_mk (Below.trod laidOut (by kernel_rfl) (of_decide_eq_true (by kernel_rfl)) k2 bel lt2) (trodAll_cons_mk (shut_int Try.underlying22 w3) (trodAll_cons_mk (Below.trod laidOut (by kernel_rfl) (of_decide_eq_true (by kernel_rfl)) k4 bel lt4) (trodAll_cons_mk (shut_bool Try.underlying4 by_) trodAll_mk0)))))), rfl, bel.frame _, fun h => by cases h⟩

set_option maxRecDepth 100000 in
theorem lifted (os : Os) (started : os.Started) (H : Type) (enc : TypeId × Value → H) (F : Stop.Interp) :
    ReturnsInHanded {} Try.checked os 3 .any ((Rows.OpenSpec.upto Rows.viewTellsSpec).pre6 enc Try.prog Try.f3 Rows.viewTellsUptoRow.domain false) (((Rows.OpenSpec.upto Rows.viewTellsSpec).at F).post enc Try.prog Try.f3 false true false false) := by
  refine returnsInHanded_of_cond (C := Try.checked) (s := Rows.OpenSpec.upto Rows.viewTellsSpec) (k := Rows.uptoSmall) rfl own started (by kernel_rfl) Try.func3
    (OpenSpec.witness (enc := enc) (C := Try.checked) (s := Rows.OpenSpec.upto Rows.viewTellsSpec) (k := Rows.uptoSmall) rfl false ⟨#[], #[.agg #[.string ByteArray.empty, .int .u32 0, .int .u32 0, .int .u32 0, .bool false, .slice none 0 0], .bool false, .agg #[.string ByteArray.empty, .int .u32 0, .bool false, .slice none 0 0, .slice none 0 0], .int .u32 0, .slice none 0 0, .bool false], []⟩ 8 (by kernel_rfl) (by kernel_rfl) (by kernel_rfl)
      (x := ([.agg [.lit (.string []), .lit (.int .u32 0), .lit (.int .u32 0), .lit (.int .u32 0), .lit (.bool false), .nil], .lit (.bool false), .agg [.lit (.string []), .lit (.int .u32 0), .lit (.bool false), .nil, .nil], .lit (.int .u32 0), .nil, .lit (.bool false)], [], [])) (by kernel_rfl) rfl (by kernel_rfl)) ?_
  intro W base args ds gs before hval hW _ hk _
  exact contract H enc W base args ds gs before hval hW hk

theorem over : Rows.viewTellsUptoRow.holds Try.pinned (Rows.OpenSpec.upto Rows.viewTellsSpec) :=
  OpenClaim.holds_of_cond 3 Try.f3 rfl rfl rfl rfl rfl rfl rfl ⟨rfl, rfl, rfl, rfl, rfl⟩ rfl rfl rfl rfl rfl (by kernel_rfl) Try.func3 (by kernel_rfl)
    (of_decide_eq_true (by kernel_rfl)) (by unfold Func.isWrapper; first | (rw [if_pos (by decide +kernel)]; kernel_rfl) | (rw [if_neg (by decide +kernel)]; exact ⟨rfl, rfl⟩))
    (fun os started H enc _ F => lifted os started H enc F)

theorem proved : Rows.ViewTellsUptoSaid := over
end Go.Proofs.Ythmiekppdhmbiaa.lawViewTells

