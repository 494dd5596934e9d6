/- Plain words for walks, more: strings as lists of bytes; a block that is changed. No program is named here. -/
import Derived.Test.YtdeegjhnomdepaaBase
import Derived.Lib.OthersKept
import Derived.ChangeKeysEq
set_option linter.unusedVariables false
set_option linter.unusedSimpArgs false
namespace Go.Proofs.Ytdeegjhnomdepaa.b
open Go.RowKit

def str (xs : List UInt8) : Value := .string ⟨xs.toArray⟩
theorem ba_size (xs : List UInt8) : (⟨xs.toArray⟩ : ByteArray).size = xs.length := by show xs.toArray.size = _; simp
theorem ba_get (xs : List UInt8) (pos : Nat) (h : pos < (⟨xs.toArray⟩ : ByteArray).size) (h' : pos < xs.length) : (⟨xs.toArray⟩ : ByteArray)[pos] = xs[pos] := rfl
theorem ba_ext (xs : List UInt8) (n m : Nat) : ((⟨xs.toArray⟩ : ByteArray).extract n m) = ⟨((xs.drop n).take (m - n)).toArray⟩ := by
  apply ByteArray.ext
  simp
theorem ba_ext0 (xs : List UInt8) (m : Nat) : ((⟨xs.toArray⟩ : ByteArray).extract 0 m) = ⟨(xs.take m).toArray⟩ := by
  rw [ba_ext]; simp
theorem ba_extl (xs : List UInt8) (n : Nat) : ((⟨xs.toArray⟩ : ByteArray).extract n xs.length) = ⟨(xs.drop n).toArray⟩ := by
  rw [ba_ext, List.take_of_length_le (by simp)]
theorem ba_lit (a : Array UInt8) : (⟨a⟩ : ByteArray) = ⟨a.toList.toArray⟩ := by simp
/-- Any string is one of a list of bytes. -/
theorem ba_any (s : ByteArray) : ∃ xs : List UInt8, s = ⟨xs.toArray⟩ := ⟨s.data.toList, by simp⟩

theorem gset (w : World) (g o : Nat) (v : Value) : w.grownBy (w.setCell ⟨g, o, none⟩ v) (some g) := by
  refine ⟨rfl, rfl, rfl, by simp [World.setCell], fun k hk hne => ?_⟩
  exact Below.heap_setCell _ _ _ _ (fun e => hne (congrArg some e))
theorem gbel {w w' : World} (h : Below w.heap.size w w') (r : Option Nat) : w.grownBy w' r := ⟨h.os, h.tape, h.output, h.size, fun k hk _ => h.block k hk⟩
theorem bgrow {w0 w w' : World} {g B : Nat} (h : Below B w0 w) (hg : w.grownBy w' (some g)) (hB : B ≤ g) (hs : B ≤ w.heap.size) : Below B w0 w' :=
  h.trans ⟨hg.os, hg.tape, hg.output, hg.size, fun k hk => hg.block k (by omega) (by intro e; injection e; omega)⟩
theorem gblk {w w' : World} {g k : Nat} (hg : w.grownBy w' (some g)) (hk : k < w.heap.size) (hne : k ≠ g) : w'.heap[k]? = w.heap[k]? := hg.block k hk (by simpa using hne)
theorem Rv.grown {w w' : World} {g : Nat} {A : Option Addr} {vs : List Value} (h : Rv w A vs) (hg : w.grownBy w' (some g)) (hA : ∀ ad, A = some ad → vs ≠ [] → ad.block ≠ g) : Rv w' A vs := by
  intro i v hv
  obtain ⟨ad, rfl, hc⟩ := h i v hv
  refine ⟨ad, rfl, hg.cell hc ?_⟩
  have := hA ad rfl (by rintro rfl; simp at hv)
  have e : (ad.add i).block = ad.block := by cases i <;> rfl
  rw [e]; simpa using this
theorem results_row_tmp {P : Program} {fn : Func} {p u : Tmp} {ty : TypeId} (h : fn.results = #[.cell p ty, .tmp u]) (tmps : Array Value) (w : World) (g : Nat) (t : TypeId) (cs : Array Value) (fr : Nat × Nat) (d : TypeDesc)
    (hp : tmps.getD p undef = .pointer (some ⟨g, 0, none⟩)) (hg : w.heap[g]? = some (.cells cs t fr))
    (hu : P.underlying ty = some d) (hd : (match d with | .struct _ | .array _ _ => true | _ => false) = true) (hi : (P.info? ty).map (·.size) = some cs.size) :
    (results fn tmps).run P w = .ok (.tuple #[.agg cs, tmps.getD u undef]) w := by
  rw [results_cell_tmp h, hp]
  simp [asAddr, Sem.run, Result.andThen, run_loadVar_row w g t ty cs fr d hg hu hd hi]
/-- 'x[i]' of an array that is held as a value, its elements of one cell. -/
theorem run_index_plain {P : Program} (w : World) (t e : TypeId) (n : Nat) (cs : Array Value) (i : Nat) (v : Value) (h : P.underlying t = some (.array n e)) (he : P.plainKey e = true) (hi0 : (P.info? e).map (·.size) = some 1) (hi : i < n) (hv : cs[i]? = some v) :
    (Instr.index t (.agg cs) (.int .i64 (i : Int))).run P w = .ok v w := by
  obtain ⟨o, ho, hs⟩ := Option.map_eq_some_iff.1 hi0
  have h1 : (0 : Int) ≤ i ∧ (i : Int) < (n : Int) := by omega
  have hp := run_part_plain w he hv
  simp [Instr.index, run_underlying h, asIntOf, hi, sizeOf, typeInfo, ho, hs, hp]
end Go.Proofs.Ytdeegjhnomdepaa.b

