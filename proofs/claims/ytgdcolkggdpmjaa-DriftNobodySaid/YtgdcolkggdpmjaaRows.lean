/-
  No cell of these rows narrows 'for every input' (looked for: loops, veiled, ifaces, maps, wideKeys, modest, calm, conditions, laid).
  DERIVED. THE GIVEN ROWS OF THIS SEAT. 7 by the template 'for every input the law returns true; each argument reads behind the call as it read before'; 0 by the template 'total and deterministic' (their statements: YtgdcolkggdpmjaaTotals.lean).
  GIVEN WITH THE SEED: the statements are not yours to turn. If you find one false, say at which input.
  Laid BY PROGRAM, IN A SANDBOX (cutbox-rows.mjs): the forced cells as the released guide's own fill.sh prints them over the translation 1cf02ed88f72c259… (all of the seat's roots in one cut). By AI agents, Wed Nov 11 2026. No macro, syntax, notation, axiom, sorry.
-/
import Derived.Test.YtgdcolkggdpmjaaChecked
import GoSem.Claim
import GoSem.ClaimJoined
import GoSem.ClaimMapViews
import Derived.JoinedTies
import Derived.KernelRfl
namespace Go.Proofs.Ytgdcolkggdpmjaa
/- THE CELL 'sum', in the pinned program and in every row, IS THE sha256 OF THE DUMP (.gsa) THAT YtgdcolkggdpmjaaProg.lean LOADS. Nothing in Lean hashes anything: it is a label: what it is worth is what the hold of that sum in a sandbox is worth. -/
noncomputable def Try.pinned : Pinned := { name := "ytgdcolkggdpmjaa", sum := "1cf02ed88f72c2598ccdded1348e260cd9cb2bff59359215c76c4e45bed1a245", checked := Try.checked }
namespace Rows
def none {H : Type} : Left H := { results := [], args := [] }

/-- 'amphoralaw10.DriftWaits': WHATEVER THE INPUT: true; the input reads as it did. -/
def driftWaitsSpec : ChangeSpec := { name := "driftWaits", fn := fun _ => fun
  | [d] => { results := [.lit (.bool true)], args := [d] }
  | _ => none }
def driftWaitsRow : OpenClaim := { program := "ytgdcolkggdpmjaa", sum := "1cf02ed88f72c2598ccdded1348e260cd9cb2bff59359215c76c4e45bed1a245", func := "amphora/amphoralaw10.DriftWaits", spec := "driftWaits", plainKeys := false, apart := false }
def DriftWaitsSaid : Prop := driftWaitsRow.holds Try.pinned (OpenSpec.ofChange driftWaitsSpec)

/-- ITS FALSE NEIGHBOUR: 'it returns false'. Refute it at one input. -/
def driftWaitsWrong : ChangeSpec := { name := "driftWaits", fn := fun _ => fun
  | [d] => { results := [.lit (.bool false)], args := [d] }
  | _ => none }
def DriftWaitsWrongFalsely : Prop := driftWaitsRow.holds Try.pinned (OpenSpec.ofChange driftWaitsWrong)

/-- 'amphoralaw10.DriftGoes': WHATEVER THE INPUT: true; the input reads as it did. -/
def driftGoesSpec : ChangeSpec := { name := "driftGoes", fn := fun _ => fun
  | [d1, d2] => { results := [.lit (.bool true)], args := [d1, d2] }
  | _ => none }
def driftGoesRow : OpenClaim := { program := "ytgdcolkggdpmjaa", sum := "1cf02ed88f72c2598ccdded1348e260cd9cb2bff59359215c76c4e45bed1a245", func := "amphora/amphoralaw10.DriftGoes", spec := "driftGoes", plainKeys := false, apart := false }
def DriftGoesSaid : Prop := driftGoesRow.holds Try.pinned (OpenSpec.ofChange driftGoesSpec)

/-- ITS FALSE NEIGHBOUR: 'it returns false'. Refute it at one input. -/
def driftGoesWrong : ChangeSpec := { name := "driftGoes", fn := fun _ => fun
  | [d1, d2] => { results := [.lit (.bool false)], args := [d1, d2] }
  | _ => none }
def DriftGoesWrongFalsely : Prop := driftGoesRow.holds Try.pinned (OpenSpec.ofChange driftGoesWrong)

/-- 'amphoralaw10.DriftEven': WHATEVER THE INPUT: true; the input reads as it did. -/
def driftEvenSpec : ChangeSpec := { name := "driftEven", fn := fun _ => fun
  | [d1, d2, d3] => { results := [.lit (.bool true)], args := [d1, d2, d3] }
  | _ => none }
def driftEvenRow : OpenClaim := { program := "ytgdcolkggdpmjaa", sum := "1cf02ed88f72c2598ccdded1348e260cd9cb2bff59359215c76c4e45bed1a245", func := "amphora/amphoralaw10.DriftEven", spec := "driftEven", plainKeys := false, apart := false }
def DriftEvenSaid : Prop := driftEvenRow.holds Try.pinned (OpenSpec.ofChange driftEvenSpec)

/-- ITS FALSE NEIGHBOUR: 'it returns false'. Refute it at one input. -/
def driftEvenWrong : ChangeSpec := { name := "driftEven", fn := fun _ => fun
  | [d1, d2, d3] => { results := [.lit (.bool false)], args := [d1, d2, d3] }
  | _ => none }
def DriftEvenWrongFalsely : Prop := driftEvenRow.holds Try.pinned (OpenSpec.ofChange driftEvenWrong)

/-- 'amphoralaw10.DriftLives': WHATEVER THE INPUT: true; the input reads as it did. -/
def driftLivesSpec : ChangeSpec := { name := "driftLives", fn := fun _ => fun
  | [d1, d2] => { results := [.lit (.bool true)], args := [d1, d2] }
  | _ => none }
def driftLivesRow : OpenClaim := { program := "ytgdcolkggdpmjaa", sum := "1cf02ed88f72c2598ccdded1348e260cd9cb2bff59359215c76c4e45bed1a245", func := "amphora/amphoralaw10.DriftLives", spec := "driftLives", plainKeys := false, apart := false }
def DriftLivesSaid : Prop := driftLivesRow.holds Try.pinned (OpenSpec.ofChange driftLivesSpec)

/-- ITS FALSE NEIGHBOUR: 'it returns false'. Refute it at one input. -/
def driftLivesWrong : ChangeSpec := { name := "driftLives", fn := fun _ => fun
  | [d1, d2] => { results := [.lit (.bool false)], args := [d1, d2] }
  | _ => none }
def DriftLivesWrongFalsely : Prop := driftLivesRow.holds Try.pinned (OpenSpec.ofChange driftLivesWrong)

/-- 'amphoralaw10.DriftBounds': WHATEVER THE INPUT: true; the input reads as it did. -/
def driftBoundsSpec : ChangeSpec := { name := "driftBounds", fn := fun _ => fun
  | [d1, d2] => { results := [.lit (.bool true)], args := [d1, d2] }
  | _ => none }
def driftBoundsRow : OpenClaim := { program := "ytgdcolkggdpmjaa", sum := "1cf02ed88f72c2598ccdded1348e260cd9cb2bff59359215c76c4e45bed1a245", func := "amphora/amphoralaw10.DriftBounds", spec := "driftBounds", plainKeys := false, apart := false }
def DriftBoundsSaid : Prop := driftBoundsRow.holds Try.pinned (OpenSpec.ofChange driftBoundsSpec)

/-- ITS FALSE NEIGHBOUR: 'it returns false'. Refute it at one input. -/
def driftBoundsWrong : ChangeSpec := { name := "driftBounds", fn := fun _ => fun
  | [d1, d2] => { results := [.lit (.bool false)], args := [d1, d2] }
  | _ => none }
def DriftBoundsWrongFalsely : Prop := driftBoundsRow.holds Try.pinned (OpenSpec.ofChange driftBoundsWrong)

/-- 'amphoralaw10.DriftEnough': WHATEVER THE INPUT: true; the input reads as it did. -/
def driftEnoughSpec : ChangeSpec := { name := "driftEnough", fn := fun _ => fun
  | [d1, d2, d3] => { results := [.lit (.bool true)], args := [d1, d2, d3] }
  | _ => none }
def driftEnoughRow : OpenClaim := { program := "ytgdcolkggdpmjaa", sum := "1cf02ed88f72c2598ccdded1348e260cd9cb2bff59359215c76c4e45bed1a245", func := "amphora/amphoralaw10.DriftEnough", spec := "driftEnough", plainKeys := false, apart := false }
def DriftEnoughSaid : Prop := driftEnoughRow.holds Try.pinned (OpenSpec.ofChange driftEnoughSpec)

/-- ITS FALSE NEIGHBOUR: 'it returns false'. Refute it at one input. -/
def driftEnoughWrong : ChangeSpec := { name := "driftEnough", fn := fun _ => fun
  | [d1, d2, d3] => { results := [.lit (.bool false)], args := [d1, d2, d3] }
  | _ => none }
def DriftEnoughWrongFalsely : Prop := driftEnoughRow.holds Try.pinned (OpenSpec.ofChange driftEnoughWrong)

/-- 'amphoralaw10.DriftNobody': WHATEVER THE INPUT: true; the input reads as it did. -/
def driftNobodySpec : ChangeSpec := { name := "driftNobody", fn := fun _ => fun
  | [d] => { results := [.lit (.bool true)], args := [d] }
  | _ => none }
def driftNobodyRow : OpenClaim := { program := "ytgdcolkggdpmjaa", sum := "1cf02ed88f72c2598ccdded1348e260cd9cb2bff59359215c76c4e45bed1a245", func := "amphora/amphoralaw10.DriftNobody", spec := "driftNobody", plainKeys := false, apart := false }
def DriftNobodySaid : Prop := driftNobodyRow.holds Try.pinned (OpenSpec.ofChange driftNobodySpec)

/-- ITS FALSE NEIGHBOUR: 'it returns false'. Refute it at one input. -/
def driftNobodyWrong : ChangeSpec := { name := "driftNobody", fn := fun _ => fun
  | [d] => { results := [.lit (.bool false)], args := [d] }
  | _ => none }
def DriftNobodyWrongFalsely : Prop := driftNobodyRow.holds Try.pinned (OpenSpec.ofChange driftNobodyWrong)

/- THE SECOND FORM. 'bulk': how many values and letters a reading holds, each counted each time it is reached (what is shared counts as often as it is met; a slice's spare places count too). A statement '..UptoSaid' is the law's where the arguments, and the package variables that the reading takes, are together of bulk at most 1048576: NARROWER than '..Said'. Prove '..Said' where nothing that the law and all that it calls make is longer than what came in: it says more and counts as full. Else prove '..UptoSaid'. A law counts once. -/
mutual
def uptoBulk {H : Type} : DataW H → Nat
  | .lit (.string bytes) => bytes.length + 1
  | .lit _ => 1
  | .nil => 1
  | .ptr d => uptoBulk d + 1
  | .slice elems spare => uptoBulkAll elems + uptoBulkAll spare + 1
  | .agg parts => uptoBulkAll parts + 1
  | .iface _ d => uptoBulk d + 1
  | .map entries => uptoBulkEntries entries + 1
  | .held _ => 1
def uptoBulkAll {H : Type} : List (DataW H) → Nat
  | [] => 0
  | d :: r => uptoBulk d + uptoBulkAll r
def uptoBulkEntries {H : Type} : List (Lit × DataW H) → Nat
  | [] => 0
  | x :: r => uptoBulkEntry x + uptoBulkEntries r
def uptoBulkEntry {H : Type} : Lit × DataW H → Nat
  | (.string bytes, d) => bytes.length + uptoBulk d + 1
  | (_, d) => uptoBulk d + 1
 end
def uptoSmall : (H : Type) → List (DataW H) → Bool := fun _ ds => decide (uptoBulkAll ds ≤ 1048576)
def OpenSpec.upto (s : _root_.Go.ChangeSpec) : _root_.Go.OpenSpec := { _root_.Go.OpenSpec.ofChange s with cond := some uptoSmall }

/-- 'amphoralaw10.DriftWaits', WHERE WHAT IT READS IS OF BULK AT MOST 1048576: true; the input reads as it did. -/
def driftWaitsUptoRow : OpenClaim := { program := "ytgdcolkggdpmjaa", sum := "1cf02ed88f72c2598ccdded1348e260cd9cb2bff59359215c76c4e45bed1a245", func := "amphora/amphoralaw10.DriftWaits", spec := "driftWaits", plainKeys := false, apart := false, narrowed := true }
def DriftWaitsUptoSaid : Prop := driftWaitsUptoRow.holds Try.pinned (OpenSpec.upto driftWaitsSpec)

/-- 'amphoralaw10.DriftGoes', WHERE WHAT IT READS IS OF BULK AT MOST 1048576: true; the input reads as it did. -/
def driftGoesUptoRow : OpenClaim := { program := "ytgdcolkggdpmjaa", sum := "1cf02ed88f72c2598ccdded1348e260cd9cb2bff59359215c76c4e45bed1a245", func := "amphora/amphoralaw10.DriftGoes", spec := "driftGoes", plainKeys := false, apart := false, narrowed := true }
def DriftGoesUptoSaid : Prop := driftGoesUptoRow.holds Try.pinned (OpenSpec.upto driftGoesSpec)

/-- 'amphoralaw10.DriftEven', WHERE WHAT IT READS IS OF BULK AT MOST 1048576: true; the input reads as it did. -/
def driftEvenUptoRow : OpenClaim := { program := "ytgdcolkggdpmjaa", sum := "1cf02ed88f72c2598ccdded1348e260cd9cb2bff59359215c76c4e45bed1a245", func := "amphora/amphoralaw10.DriftEven", spec := "driftEven", plainKeys := false, apart := false, narrowed := true }
def DriftEvenUptoSaid : Prop := driftEvenUptoRow.holds Try.pinned (OpenSpec.upto driftEvenSpec)

/-- 'amphoralaw10.DriftLives', WHERE WHAT IT READS IS OF BULK AT MOST 1048576: true; the input reads as it did. -/
def driftLivesUptoRow : OpenClaim := { program := "ytgdcolkggdpmjaa", sum := "1cf02ed88f72c2598ccdded1348e260cd9cb2bff59359215c76c4e45bed1a245", func := "amphora/amphoralaw10.DriftLives", spec := "driftLives", plainKeys := false, apart := false, narrowed := true }
def DriftLivesUptoSaid : Prop := driftLivesUptoRow.holds Try.pinned (OpenSpec.upto driftLivesSpec)

/-- 'amphoralaw10.DriftBounds', WHERE WHAT IT READS IS OF BULK AT MOST 1048576: true; the input reads as it did. -/
def driftBoundsUptoRow : OpenClaim := { program := "ytgdcolkggdpmjaa", sum := "1cf02ed88f72c2598ccdded1348e260cd9cb2bff59359215c76c4e45bed1a245", func := "amphora/amphoralaw10.DriftBounds", spec := "driftBounds", plainKeys := false, apart := false, narrowed := true }
def DriftBoundsUptoSaid : Prop := driftBoundsUptoRow.holds Try.pinned (OpenSpec.upto driftBoundsSpec)

/-- 'amphoralaw10.DriftEnough', WHERE WHAT IT READS IS OF BULK AT MOST 1048576: true; the input reads as it did. -/
def driftEnoughUptoRow : OpenClaim := { program := "ytgdcolkggdpmjaa", sum := "1cf02ed88f72c2598ccdded1348e260cd9cb2bff59359215c76c4e45bed1a245", func := "amphora/amphoralaw10.DriftEnough", spec := "driftEnough", plainKeys := false, apart := false, narrowed := true }
def DriftEnoughUptoSaid : Prop := driftEnoughUptoRow.holds Try.pinned (OpenSpec.upto driftEnoughSpec)

/-- 'amphoralaw10.DriftNobody', WHERE WHAT IT READS IS OF BULK AT MOST 1048576: true; the input reads as it did. -/
def driftNobodyUptoRow : OpenClaim := { program := "ytgdcolkggdpmjaa", sum := "1cf02ed88f72c2598ccdded1348e260cd9cb2bff59359215c76c4e45bed1a245", func := "amphora/amphoralaw10.DriftNobody", spec := "driftNobody", plainKeys := false, apart := false, narrowed := true }
def DriftNobodyUptoSaid : Prop := driftNobodyUptoRow.holds Try.pinned (OpenSpec.upto driftNobodySpec)

end Rows
end Go.Proofs.Ytgdcolkggdpmjaa
