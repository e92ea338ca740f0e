/-
  No cell of these rows narrows 'for every input' (looked for: loops, veiled, ifaces, maps, wideKeys, modest, calm, conditions, laid).
  DERIVED. THE GIVEN ROWS OF THIS SEAT. 5 by the template 'for every input the law returns true; each argument reads behind the call as it read before'; 0 by the template 'total and deterministic' (their statements: YteihlfeifnnpaaaTotals.lean).
  GIVEN WITH THE SEED: the statements are not yours to turn. If you find one false, say at which input.
  Laid BY PROGRAM, IN A SANDBOX (cutbox-rows.mjs): the forced cells as the released guide's own fill.sh prints them over the translation b9f863aae1047bc0… (all of the seat's roots in one cut). By AI agents, Wed Nov 11 2026. No macro, syntax, notation, axiom, sorry.
-/
import Derived.Test.YteihlfeifnnpaaaChecked
import GoSem.Claim
import GoSem.ClaimJoined
import GoSem.ClaimMapViews
import Derived.JoinedTies
import Derived.KernelRfl
namespace Go.Proofs.Yteihlfeifnnpaaa
/- THE CELL 'sum', in the pinned program and in every row, IS THE sha256 OF THE DUMP (.gsa) THAT YteihlfeifnnpaaaProg.lean LOADS. Nothing in Lean hashes anything: it is a label: what it is worth is what the hold of that sum in a sandbox is worth. -/
noncomputable def Try.pinned : Pinned := { name := "yteihlfeifnnpaaa", sum := "b9f863aae1047bc0d1c3ec7be5255401c5138659775691c8e34e1edc14ca9cd8", checked := Try.checked }
namespace Rows
def none {H : Type} : Left H := { results := [], args := [] }

/-- 'amphoralaw16.LeaseHolds': WHATEVER THE INPUT: true; the input reads as it did. -/
def leaseHoldsSpec : ChangeSpec := { name := "leaseHolds", fn := fun _ => fun
  | [d1, d2] => { results := [.lit (.bool true)], args := [d1, d2] }
  | _ => none }
def leaseHoldsRow : OpenClaim := { program := "yteihlfeifnnpaaa", sum := "b9f863aae1047bc0d1c3ec7be5255401c5138659775691c8e34e1edc14ca9cd8", func := "amphora/amphoralaw16.LeaseHolds", spec := "leaseHolds", plainKeys := false, apart := false }
def LeaseHoldsSaid : Prop := leaseHoldsRow.holds Try.pinned (OpenSpec.ofChange leaseHoldsSpec)

/-- ITS FALSE NEIGHBOUR: 'it returns false'. Refute it at one input. -/
def leaseHoldsWrong : ChangeSpec := { name := "leaseHolds", fn := fun _ => fun
  | [d1, d2] => { results := [.lit (.bool false)], args := [d1, d2] }
  | _ => none }
def LeaseHoldsWrongFalsely : Prop := leaseHoldsRow.holds Try.pinned (OpenSpec.ofChange leaseHoldsWrong)

/-- 'amphoralaw16.LeaseFirst': WHATEVER THE INPUT: true; the input reads as it did. -/
def leaseFirstSpec : ChangeSpec := { name := "leaseFirst", fn := fun _ => fun
  | [d1, d2, d3, d4] => { results := [.lit (.bool true)], args := [d1, d2, d3, d4] }
  | _ => none }
def leaseFirstRow : OpenClaim := { program := "yteihlfeifnnpaaa", sum := "b9f863aae1047bc0d1c3ec7be5255401c5138659775691c8e34e1edc14ca9cd8", func := "amphora/amphoralaw16.LeaseFirst", spec := "leaseFirst", unfollowed := true, recurses := true, plainKeys := false, apart := false }
def LeaseFirstSaid : Prop := leaseFirstRow.holds Try.pinned (OpenSpec.ofChange leaseFirstSpec)

/-- ITS FALSE NEIGHBOUR: 'it returns false'. Refute it at one input. -/
def leaseFirstWrong : ChangeSpec := { name := "leaseFirst", fn := fun _ => fun
  | [d1, d2, d3, d4] => { results := [.lit (.bool false)], args := [d1, d2, d3, d4] }
  | _ => none }
def LeaseFirstWrongFalsely : Prop := leaseFirstRow.holds Try.pinned (OpenSpec.ofChange leaseFirstWrong)

/-- 'amphoralaw16.LeaseEnds': WHATEVER THE INPUT: true; the input reads as it did. -/
def leaseEndsSpec : ChangeSpec := { name := "leaseEnds", fn := fun _ => fun
  | [d1, d2, d3, d4] => { results := [.lit (.bool true)], args := [d1, d2, d3, d4] }
  | _ => none }
def leaseEndsRow : OpenClaim := { program := "yteihlfeifnnpaaa", sum := "b9f863aae1047bc0d1c3ec7be5255401c5138659775691c8e34e1edc14ca9cd8", func := "amphora/amphoralaw16.LeaseEnds", spec := "leaseEnds", unfollowed := true, recurses := true, plainKeys := false, apart := false }
def LeaseEndsSaid : Prop := leaseEndsRow.holds Try.pinned (OpenSpec.ofChange leaseEndsSpec)

/-- ITS FALSE NEIGHBOUR: 'it returns false'. Refute it at one input. -/
def leaseEndsWrong : ChangeSpec := { name := "leaseEnds", fn := fun _ => fun
  | [d1, d2, d3, d4] => { results := [.lit (.bool false)], args := [d1, d2, d3, d4] }
  | _ => none }
def LeaseEndsWrongFalsely : Prop := leaseEndsRow.holds Try.pinned (OpenSpec.ofChange leaseEndsWrong)

/-- 'amphoralaw16.LeaseNobody': WHATEVER THE INPUT: true; the input reads as it did. -/
def leaseNobodySpec : ChangeSpec := { name := "leaseNobody", fn := fun _ => fun
  | [d1, d2, d3] => { results := [.lit (.bool true)], args := [d1, d2, d3] }
  | _ => none }
def leaseNobodyRow : OpenClaim := { program := "yteihlfeifnnpaaa", sum := "b9f863aae1047bc0d1c3ec7be5255401c5138659775691c8e34e1edc14ca9cd8", func := "amphora/amphoralaw16.LeaseNobody", spec := "leaseNobody", unfollowed := true, recurses := true, plainKeys := false, apart := false }
def LeaseNobodySaid : Prop := leaseNobodyRow.holds Try.pinned (OpenSpec.ofChange leaseNobodySpec)

/-- ITS FALSE NEIGHBOUR: 'it returns false'. Refute it at one input. -/
def leaseNobodyWrong : ChangeSpec := { name := "leaseNobody", fn := fun _ => fun
  | [d1, d2, d3] => { results := [.lit (.bool false)], args := [d1, d2, d3] }
  | _ => none }
def LeaseNobodyWrongFalsely : Prop := leaseNobodyRow.holds Try.pinned (OpenSpec.ofChange leaseNobodyWrong)

/-- 'amphoralaw16.LeaseOver': WHATEVER THE INPUT: true; the input reads as it did. -/
def leaseOverSpec : ChangeSpec := { name := "leaseOver", fn := fun _ => fun
  | [d] => { results := [.lit (.bool true)], args := [d] }
  | _ => none }
def leaseOverRow : OpenClaim := { program := "yteihlfeifnnpaaa", sum := "b9f863aae1047bc0d1c3ec7be5255401c5138659775691c8e34e1edc14ca9cd8", func := "amphora/amphoralaw16.LeaseOver", spec := "leaseOver", unfollowed := true, recurses := true, plainKeys := false, apart := false }
def LeaseOverSaid : Prop := leaseOverRow.holds Try.pinned (OpenSpec.ofChange leaseOverSpec)

/-- ITS FALSE NEIGHBOUR: 'it returns false'. Refute it at one input. -/
def leaseOverWrong : ChangeSpec := { name := "leaseOver", fn := fun _ => fun
  | [d] => { results := [.lit (.bool false)], args := [d] }
  | _ => none }
def LeaseOverWrongFalsely : Prop := leaseOverRow.holds Try.pinned (OpenSpec.ofChange leaseOverWrong)

/- THE SECOND FORM. 'bulk': how many values and letters a reading holds, each counted each time it is reached (what is shared counts as often as it is met; a slice's spare places count too). A statement '..UptoSaid' is the law's where the arguments, and the package variables that the reading takes, are together of bulk at most 1048576: NARROWER than '..Said'. Prove '..Said' where nothing that the law and all that it calls make is longer than what came in: it says more and counts as full. Else prove '..UptoSaid'. A law counts once. -/
mutual
def uptoBulk {H : Type} : DataW H → Nat
  | .lit (.string bytes) => bytes.length + 1
  | .lit _ => 1
  | .nil => 1
  | .ptr d => uptoBulk d + 1
  | .slice elems spare => uptoBulkAll elems + uptoBulkAll spare + 1
  | .agg parts => uptoBulkAll parts + 1
  | .iface _ d => uptoBulk d + 1
  | .map entries => uptoBulkEntries entries + 1
  | .held _ => 1
def uptoBulkAll {H : Type} : List (DataW H) → Nat
  | [] => 0
  | d :: r => uptoBulk d + uptoBulkAll r
def uptoBulkEntries {H : Type} : List (Lit × DataW H) → Nat
  | [] => 0
  | x :: r => uptoBulkEntry x + uptoBulkEntries r
def uptoBulkEntry {H : Type} : Lit × DataW H → Nat
  | (.string bytes, d) => bytes.length + uptoBulk d + 1
  | (_, d) => uptoBulk d + 1
 end
def uptoSmall : (H : Type) → List (DataW H) → Bool := fun _ ds => decide (uptoBulkAll ds ≤ 1048576)
def OpenSpec.upto (s : _root_.Go.ChangeSpec) : _root_.Go.OpenSpec := { _root_.Go.OpenSpec.ofChange s with cond := some uptoSmall }

/-- 'amphoralaw16.LeaseHolds', WHERE WHAT IT READS IS OF BULK AT MOST 1048576: true; the input reads as it did. -/
def leaseHoldsUptoRow : OpenClaim := { program := "yteihlfeifnnpaaa", sum := "b9f863aae1047bc0d1c3ec7be5255401c5138659775691c8e34e1edc14ca9cd8", func := "amphora/amphoralaw16.LeaseHolds", spec := "leaseHolds", plainKeys := false, apart := false, narrowed := true }
def LeaseHoldsUptoSaid : Prop := leaseHoldsUptoRow.holds Try.pinned (OpenSpec.upto leaseHoldsSpec)

/-- 'amphoralaw16.LeaseFirst', WHERE WHAT IT READS IS OF BULK AT MOST 1048576: true; the input reads as it did. -/
def leaseFirstUptoRow : OpenClaim := { program := "yteihlfeifnnpaaa", sum := "b9f863aae1047bc0d1c3ec7be5255401c5138659775691c8e34e1edc14ca9cd8", func := "amphora/amphoralaw16.LeaseFirst", spec := "leaseFirst", unfollowed := true, recurses := true, plainKeys := false, apart := false, narrowed := true }
def LeaseFirstUptoSaid : Prop := leaseFirstUptoRow.holds Try.pinned (OpenSpec.upto leaseFirstSpec)

/-- 'amphoralaw16.LeaseEnds', WHERE WHAT IT READS IS OF BULK AT MOST 1048576: true; the input reads as it did. -/
def leaseEndsUptoRow : OpenClaim := { program := "yteihlfeifnnpaaa", sum := "b9f863aae1047bc0d1c3ec7be5255401c5138659775691c8e34e1edc14ca9cd8", func := "amphora/amphoralaw16.LeaseEnds", spec := "leaseEnds", unfollowed := true, recurses := true, plainKeys := false, apart := false, narrowed := true }
def LeaseEndsUptoSaid : Prop := leaseEndsUptoRow.holds Try.pinned (OpenSpec.upto leaseEndsSpec)

/-- 'amphoralaw16.LeaseNobody', WHERE WHAT IT READS IS OF BULK AT MOST 1048576: true; the input reads as it did. -/
def leaseNobodyUptoRow : OpenClaim := { program := "yteihlfeifnnpaaa", sum := "b9f863aae1047bc0d1c3ec7be5255401c5138659775691c8e34e1edc14ca9cd8", func := "amphora/amphoralaw16.LeaseNobody", spec := "leaseNobody", unfollowed := true, recurses := true, plainKeys := false, apart := false, narrowed := true }
def LeaseNobodyUptoSaid : Prop := leaseNobodyUptoRow.holds Try.pinned (OpenSpec.upto leaseNobodySpec)

/-- 'amphoralaw16.LeaseOver', WHERE WHAT IT READS IS OF BULK AT MOST 1048576: true; the input reads as it did. -/
def leaseOverUptoRow : OpenClaim := { program := "yteihlfeifnnpaaa", sum := "b9f863aae1047bc0d1c3ec7be5255401c5138659775691c8e34e1edc14ca9cd8", func := "amphora/amphoralaw16.LeaseOver", spec := "leaseOver", unfollowed := true, recurses := true, plainKeys := false, apart := false, narrowed := true }
def LeaseOverUptoSaid : Prop := leaseOverUptoRow.holds Try.pinned (OpenSpec.upto leaseOverSpec)

end Rows
end Go.Proofs.Yteihlfeifnnpaaa
