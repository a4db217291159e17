/-
  No cell of these rows narrows 'for every input' (looked for: loops, veiled, ifaces, maps, wideKeys, modest, calm, conditions, laid).
  DERIVED. THE GIVEN ROWS OF THIS SEAT. 2 by the template 'for every input the law returns true; each argument reads behind the call as it read before'; 0 by the template 'total and deterministic' (their statements: YtdmodppoellbkaaGreatTotals.lean).
  GIVEN WITH THE SEED: the statements are not yours to turn. If you find one false, say at which input.
  Laid BY PROGRAM, IN A SANDBOX (cutbox-rows.mjs): the forced cells as the released guide's own fill.sh prints them over the translation faa4a5e294e41056… (all of the seat's roots in one cut). By AI agents, Wed Nov 11 2026. No macro, syntax, notation, axiom, sorry.
-/
import Derived.Test.YtdmodppoellbkaaGreatChecked
import GoSem.Claim
import GoSem.ClaimJoined
import GoSem.ClaimMapViews
import Derived.JoinedTies
import Derived.KernelRfl
namespace Go.Proofs.YtdmodppoellbkaaGreat
/- THE CELL 'sum', in the pinned program and in every row, IS THE sha256 OF THE DUMP (.gsa) THAT YtdmodppoellbkaaGreatProg.lean LOADS. Nothing in Lean hashes anything: it is a label: what it is worth is what the hold of that sum in a sandbox is worth. -/
noncomputable def Tryz.pinned : Pinned := { name := "ytdmodppoellbkaagreat", sum := "faa4a5e294e4105679a7678d87c18df2b1d03a8053b83c96e5d9c67f9dfd7738", checked := Tryz.checked }
namespace Rows
def none {H : Type} : Left H := { results := [], args := [] }

/-- 'filigreelaw20.BakerAny': WHATEVER THE INPUT: true; the input reads as it did. -/
def bakerAnySpec : ChangeSpec := { name := "bakerAny", fn := fun _ => fun
  | [d1, d2, d3, d4] => { results := [.lit (.bool true)], args := [d1, d2, d3, d4] }
  | _ => none }
def bakerAnyRow : OpenClaim := { program := "ytdmodppoellbkaagreat", sum := "faa4a5e294e4105679a7678d87c18df2b1d03a8053b83c96e5d9c67f9dfd7738", func := "filigree/filigreelaw20.BakerAny", spec := "bakerAny", unfollowed := true, recurses := true, plainKeys := false, apart := false }
def BakerAnySaid : Prop := bakerAnyRow.holds Tryz.pinned (OpenSpec.ofChange bakerAnySpec)

/-- ITS FALSE NEIGHBOUR: 'it returns false'. Refute it at one input. -/
def bakerAnyWrong : ChangeSpec := { name := "bakerAny", fn := fun _ => fun
  | [d1, d2, d3, d4] => { results := [.lit (.bool false)], args := [d1, d2, d3, d4] }
  | _ => none }
def BakerAnyWrongFalsely : Prop := bakerAnyRow.holds Tryz.pinned (OpenSpec.ofChange bakerAnyWrong)

/-- 'filigreelaw20.BakerShifts': WHATEVER THE INPUT: true; the input reads as it did. -/
def bakerShiftsSpec : ChangeSpec := { name := "bakerShifts", fn := fun _ => fun
  | [d1, d2, d3, d4, d5] => { results := [.lit (.bool true)], args := [d1, d2, d3, d4, d5] }
  | _ => none }
def bakerShiftsRow : OpenClaim := { program := "ytdmodppoellbkaagreat", sum := "faa4a5e294e4105679a7678d87c18df2b1d03a8053b83c96e5d9c67f9dfd7738", func := "filigree/filigreelaw20.BakerShifts", spec := "bakerShifts", unfollowed := true, recurses := true, plainKeys := false, apart := false }
def BakerShiftsSaid : Prop := bakerShiftsRow.holds Tryz.pinned (OpenSpec.ofChange bakerShiftsSpec)

/-- ITS FALSE NEIGHBOUR: 'it returns false'. Refute it at one input. -/
def bakerShiftsWrong : ChangeSpec := { name := "bakerShifts", fn := fun _ => fun
  | [d1, d2, d3, d4, d5] => { results := [.lit (.bool false)], args := [d1, d2, d3, d4, d5] }
  | _ => none }
def BakerShiftsWrongFalsely : Prop := bakerShiftsRow.holds Tryz.pinned (OpenSpec.ofChange bakerShiftsWrong)

/- THE SECOND FORM. 'bulk': how many values and letters a reading holds, each counted each time it is reached (what is shared counts as often as it is met; a slice's spare places count too). A statement '..UptoSaid' is the law's where the arguments, and the package variables that the reading takes, are together of bulk at most 1048576: NARROWER than '..Said'. Prove '..Said' where nothing that the law and all that it calls make is longer than what came in: it says more and counts as full. Else prove '..UptoSaid'. A law counts once. -/
mutual
def uptoBulk {H : Type} : DataW H → Nat
  | .lit (.string bytes) => bytes.length + 1
  | .lit _ => 1
  | .nil => 1
  | .ptr d => uptoBulk d + 1
  | .slice elems spare => uptoBulkAll elems + uptoBulkAll spare + 1
  | .agg parts => uptoBulkAll parts + 1
  | .iface _ d => uptoBulk d + 1
  | .map entries => uptoBulkEntries entries + 1
  | .held _ => 1
def uptoBulkAll {H : Type} : List (DataW H) → Nat
  | [] => 0
  | d :: r => uptoBulk d + uptoBulkAll r
def uptoBulkEntries {H : Type} : List (Lit × DataW H) → Nat
  | [] => 0
  | x :: r => uptoBulkEntry x + uptoBulkEntries r
def uptoBulkEntry {H : Type} : Lit × DataW H → Nat
  | (.string bytes, d) => bytes.length + uptoBulk d + 1
  | (_, d) => uptoBulk d + 1
 end
def uptoSmall : (H : Type) → List (DataW H) → Bool := fun _ ds => decide (uptoBulkAll ds ≤ 1048576)
def OpenSpec.upto (s : _root_.Go.ChangeSpec) : _root_.Go.OpenSpec := { _root_.Go.OpenSpec.ofChange s with cond := some uptoSmall }

/-- 'filigreelaw20.BakerAny', WHERE WHAT IT READS IS OF BULK AT MOST 1048576: true; the input reads as it did. -/
def bakerAnyUptoRow : OpenClaim := { program := "ytdmodppoellbkaagreat", sum := "faa4a5e294e4105679a7678d87c18df2b1d03a8053b83c96e5d9c67f9dfd7738", func := "filigree/filigreelaw20.BakerAny", spec := "bakerAny", unfollowed := true, recurses := true, plainKeys := false, apart := false, narrowed := true }
def BakerAnyUptoSaid : Prop := bakerAnyUptoRow.holds Tryz.pinned (OpenSpec.upto bakerAnySpec)

/-- 'filigreelaw20.BakerShifts', WHERE WHAT IT READS IS OF BULK AT MOST 1048576: true; the input reads as it did. -/
def bakerShiftsUptoRow : OpenClaim := { program := "ytdmodppoellbkaagreat", sum := "faa4a5e294e4105679a7678d87c18df2b1d03a8053b83c96e5d9c67f9dfd7738", func := "filigree/filigreelaw20.BakerShifts", spec := "bakerShifts", unfollowed := true, recurses := true, plainKeys := false, apart := false, narrowed := true }
def BakerShiftsUptoSaid : Prop := bakerShiftsUptoRow.holds Tryz.pinned (OpenSpec.upto bakerShiftsSpec)

end Rows
end Go.Proofs.YtdmodppoellbkaaGreat
