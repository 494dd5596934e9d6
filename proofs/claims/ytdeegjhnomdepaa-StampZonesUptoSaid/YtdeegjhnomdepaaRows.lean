/-
  No cell of these rows narrows 'for every input' (looked for: loops, veiled, ifaces, maps, wideKeys, modest, calm, conditions, laid).
  DERIVED. THE GIVEN ROWS OF THIS SEAT. 4 by the template 'for every input the law returns true; each argument reads behind the call as it read before'; 0 by the template 'total and deterministic' (their statements: YtdeegjhnomdepaaTotals.lean).
  GIVEN WITH THE SEED: the statements are not yours to turn. If you find one false, say at which input.
  Laid BY PROGRAM, IN A SANDBOX (cutbox-rows.mjs): the forced cells as the released guide's own fill.sh prints them over the translation fb96d086469181b6… (all of the seat's roots in one cut). By AI agents, Wed Nov 11 2026. No macro, syntax, notation, axiom, sorry.
-/
import Derived.Test.YtdeegjhnomdepaaChecked
import GoSem.Claim
import GoSem.ClaimJoined
import GoSem.ClaimMapViews
import Derived.JoinedTies
import Derived.KernelRfl
namespace Go.Proofs.Ytdeegjhnomdepaa
/- THE CELL 'sum', in the pinned program and in every row, IS THE sha256 OF THE DUMP (.gsa) THAT YtdeegjhnomdepaaProg.lean LOADS. Nothing in Lean hashes anything: it is a label: what it is worth is what the hold of that sum in a sandbox is worth. -/
noncomputable def Try.pinned : Pinned := { name := "ytdeegjhnomdepaa", sum := "fb96d086469181b602b9744112bddf190cd509365f83d4205b11b5978e4acd9d", checked := Try.checked }
namespace Rows
def none {H : Type} : Left H := { results := [], args := [] }

/-- 'cubbylaw08.StampParses': WHATEVER THE INPUT: true; the input reads as it did. -/
def stampParsesSpec : ChangeSpec := { name := "stampParses", fn := fun _ => fun
  | [d] => { results := [.lit (.bool true)], args := [d] }
  | _ => none }
def stampParsesRow : OpenClaim := { program := "ytdeegjhnomdepaa", sum := "fb96d086469181b602b9744112bddf190cd509365f83d4205b11b5978e4acd9d", func := "cubby/cubbylaw08.StampParses", spec := "stampParses", apart := false }
def StampParsesSaid : Prop := stampParsesRow.holds Try.pinned (OpenSpec.ofChange stampParsesSpec)

/-- ITS FALSE NEIGHBOUR: 'it returns false'. Refute it at one input. -/
def stampParsesWrong : ChangeSpec := { name := "stampParses", fn := fun _ => fun
  | [d] => { results := [.lit (.bool false)], args := [d] }
  | _ => none }
def StampParsesWrongFalsely : Prop := stampParsesRow.holds Try.pinned (OpenSpec.ofChange stampParsesWrong)

/-- 'cubbylaw08.StampOrder': WHATEVER THE INPUT: true; the input reads as it did. -/
def stampOrderSpec : ChangeSpec := { name := "stampOrder", fn := fun _ => fun
  | [d1, d2] => { results := [.lit (.bool true)], args := [d1, d2] }
  | _ => none }
def stampOrderRow : OpenClaim := { program := "ytdeegjhnomdepaa", sum := "fb96d086469181b602b9744112bddf190cd509365f83d4205b11b5978e4acd9d", func := "cubby/cubbylaw08.StampOrder", spec := "stampOrder", unfollowed := true, recurses := true, apart := false }
def StampOrderSaid : Prop := stampOrderRow.holds Try.pinned (OpenSpec.ofChange stampOrderSpec)

/-- ITS FALSE NEIGHBOUR: 'it returns false'. Refute it at one input. -/
def stampOrderWrong : ChangeSpec := { name := "stampOrder", fn := fun _ => fun
  | [d1, d2] => { results := [.lit (.bool false)], args := [d1, d2] }
  | _ => none }
def StampOrderWrongFalsely : Prop := stampOrderRow.holds Try.pinned (OpenSpec.ofChange stampOrderWrong)

/-- 'cubbylaw08.StampAt': WHATEVER THE INPUT: true; the input reads as it did. -/
def stampAtSpec : ChangeSpec := { name := "stampAt", fn := fun _ => fun
  | [d1, d2] => { results := [.lit (.bool true)], args := [d1, d2] }
  | _ => none }
def stampAtRow : OpenClaim := { program := "ytdeegjhnomdepaa", sum := "fb96d086469181b602b9744112bddf190cd509365f83d4205b11b5978e4acd9d", func := "cubby/cubbylaw08.StampAt", spec := "stampAt", apart := false }
def StampAtSaid : Prop := stampAtRow.holds Try.pinned (OpenSpec.ofChange stampAtSpec)

/-- ITS FALSE NEIGHBOUR: 'it returns false'. Refute it at one input. -/
def stampAtWrong : ChangeSpec := { name := "stampAt", fn := fun _ => fun
  | [d1, d2] => { results := [.lit (.bool false)], args := [d1, d2] }
  | _ => none }
def StampAtWrongFalsely : Prop := stampAtRow.holds Try.pinned (OpenSpec.ofChange stampAtWrong)

/-- 'cubbylaw08.StampZones': WHATEVER THE INPUT: true; the input reads as it did. -/
def stampZonesSpec : ChangeSpec := { name := "stampZones", fn := fun _ => fun
  | [d1, d2] => { results := [.lit (.bool true)], args := [d1, d2] }
  | _ => none }
def stampZonesRow : OpenClaim := { program := "ytdeegjhnomdepaa", sum := "fb96d086469181b602b9744112bddf190cd509365f83d4205b11b5978e4acd9d", func := "cubby/cubbylaw08.StampZones", spec := "stampZones", apart := false }
def StampZonesSaid : Prop := stampZonesRow.holds Try.pinned (OpenSpec.ofChange stampZonesSpec)

/-- ITS FALSE NEIGHBOUR: 'it returns false'. Refute it at one input. -/
def stampZonesWrong : ChangeSpec := { name := "stampZones", fn := fun _ => fun
  | [d1, d2] => { results := [.lit (.bool false)], args := [d1, d2] }
  | _ => none }
def StampZonesWrongFalsely : Prop := stampZonesRow.holds Try.pinned (OpenSpec.ofChange stampZonesWrong)

/- THE SECOND FORM. 'bulk': how many values and letters a reading holds, each counted each time it is reached (what is shared counts as often as it is met; a slice's spare places count too). A statement '..UptoSaid' is the law's where the arguments, and the package variables that the reading takes, are together of bulk at most 1048576: NARROWER than '..Said'. Prove '..Said' where nothing that the law and all that it calls make is longer than what came in: it says more and counts as full. Else prove '..UptoSaid'. A law counts once. -/
mutual
def uptoBulk {H : Type} : DataW H → Nat
  | .lit (.string bytes) => bytes.length + 1
  | .lit _ => 1
  | .nil => 1
  | .ptr d => uptoBulk d + 1
  | .slice elems spare => uptoBulkAll elems + uptoBulkAll spare + 1
  | .agg parts => uptoBulkAll parts + 1
  | .iface _ d => uptoBulk d + 1
  | .map entries => uptoBulkEntries entries + 1
  | .held _ => 1
def uptoBulkAll {H : Type} : List (DataW H) → Nat
  | [] => 0
  | d :: r => uptoBulk d + uptoBulkAll r
def uptoBulkEntries {H : Type} : List (Lit × DataW H) → Nat
  | [] => 0
  | x :: r => uptoBulkEntry x + uptoBulkEntries r
def uptoBulkEntry {H : Type} : Lit × DataW H → Nat
  | (.string bytes, d) => bytes.length + uptoBulk d + 1
  | (_, d) => uptoBulk d + 1
 end
def uptoSmall : (H : Type) → List (DataW H) → Bool := fun _ ds => decide (uptoBulkAll ds ≤ 1048576)
def OpenSpec.upto (s : _root_.Go.ChangeSpec) : _root_.Go.OpenSpec := { _root_.Go.OpenSpec.ofChange s with cond := some uptoSmall }

/-- 'cubbylaw08.StampParses', WHERE WHAT IT READS IS OF BULK AT MOST 1048576: true; the input reads as it did. -/
def stampParsesUptoRow : OpenClaim := { program := "ytdeegjhnomdepaa", sum := "fb96d086469181b602b9744112bddf190cd509365f83d4205b11b5978e4acd9d", func := "cubby/cubbylaw08.StampParses", spec := "stampParses", apart := false, narrowed := true }
def StampParsesUptoSaid : Prop := stampParsesUptoRow.holds Try.pinned (OpenSpec.upto stampParsesSpec)

/-- 'cubbylaw08.StampOrder', WHERE WHAT IT READS IS OF BULK AT MOST 1048576: true; the input reads as it did. -/
def stampOrderUptoRow : OpenClaim := { program := "ytdeegjhnomdepaa", sum := "fb96d086469181b602b9744112bddf190cd509365f83d4205b11b5978e4acd9d", func := "cubby/cubbylaw08.StampOrder", spec := "stampOrder", unfollowed := true, recurses := true, apart := false, narrowed := true }
def StampOrderUptoSaid : Prop := stampOrderUptoRow.holds Try.pinned (OpenSpec.upto stampOrderSpec)

/-- 'cubbylaw08.StampAt', WHERE WHAT IT READS IS OF BULK AT MOST 1048576: true; the input reads as it did. -/
def stampAtUptoRow : OpenClaim := { program := "ytdeegjhnomdepaa", sum := "fb96d086469181b602b9744112bddf190cd509365f83d4205b11b5978e4acd9d", func := "cubby/cubbylaw08.StampAt", spec := "stampAt", apart := false, narrowed := true }
def StampAtUptoSaid : Prop := stampAtUptoRow.holds Try.pinned (OpenSpec.upto stampAtSpec)

/-- 'cubbylaw08.StampZones', WHERE WHAT IT READS IS OF BULK AT MOST 1048576: true; the input reads as it did. -/
def stampZonesUptoRow : OpenClaim := { program := "ytdeegjhnomdepaa", sum := "fb96d086469181b602b9744112bddf190cd509365f83d4205b11b5978e4acd9d", func := "cubby/cubbylaw08.StampZones", spec := "stampZones", apart := false, narrowed := true }
def StampZonesUptoSaid : Prop := stampZonesUptoRow.holds Try.pinned (OpenSpec.upto stampZonesSpec)

end Rows
end Go.Proofs.Ytdeegjhnomdepaa
