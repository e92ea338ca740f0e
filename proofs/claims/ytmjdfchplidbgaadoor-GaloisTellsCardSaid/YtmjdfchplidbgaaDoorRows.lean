/-
  NARROWER THAN 'FOR EVERY INPUT', by the rows' own cells (each row's printed sentence says how): GaloisField: laid · GaloisQuotients: laid · GaloisTells: laid · GaloisPows: laid · GaloisSquares: laid · GaloisExp: laid · GaloisPowers: laid.
  DERIVED. THE GIVEN ROWS OF THIS SEAT. 7 by the template 'for every input the law returns true; each argument reads behind the call as it read before'; 0 by the template 'total and deterministic' (their statements: YtmjdfchplidbgaaDoorTotals.lean).
  GIVEN WITH THE SEED: the statements are not yours to turn. If you find one false, say at which input.
  Laid BY PROGRAM, IN A SANDBOX (cutbox-rows.mjs): the forced cells as the released guide's own fill.sh prints them over the translation c54037adcdc83c66… (all of the seat's roots in one cut). By AI agents, Wed Nov 11 2026. No macro, syntax, notation, axiom, sorry.
-/
import Derived.Test.YtmjdfchplidbgaaDoorChecked
import GoSem.Claim
import GoSem.ClaimJoined
import GoSem.ClaimMapViews
import Derived.JoinedTies
import Derived.KernelRfl
namespace Go.Proofs.YtmjdfchplidbgaaDoor
/- THE CELL 'sum', in the pinned program and in every row, IS THE sha256 OF THE DUMP (.gsa) THAT YtmjdfchplidbgaaDoorProg.lean LOADS. Nothing in Lean hashes anything: it is a label: what it is worth is what the hold of that sum in a sandbox is worth. -/
noncomputable def Tryd.pinned : Pinned := { name := "ytmjdfchplidbgaadoor", sum := "c54037adcdc83c669cbe4de1c9306d92da87561270a69fa3c32e5be02eb62a8e", checked := Tryd.checked }
namespace Rows
def none {H : Type} : Left H := { results := [], args := [] }

/- WHAT THE LISTED PACKAGE-LEVEL VARIABLES READ AS WHEN THE CALL BEGINS. Each datum BY PROGRAM (the guide's laid-datum.mjs) off the statement by which the dump's own 'gosem.cut.vars' lays the variable. In a bare row this is a premise. The card (YtmjdfchplidbgaaDoorCards.lean) ties it to the program's text. -/
def laid_amphora_galois_fold {H : Type} : DataW H := .agg [.lit (.int .u8 0), .lit (.int .u8 29), .lit (.int .u8 58), .lit (.int .u8 39), .lit (.int .u8 116), .lit (.int .u8 105), .lit (.int .u8 78), .lit (.int .u8 83), .lit (.int .u8 232), .lit (.int .u8 245), .lit (.int .u8 210), .lit (.int .u8 207), .lit (.int .u8 156), .lit (.int .u8 129), .lit (.int .u8 166), .lit (.int .u8 187)]

/-- 'amphoralaw01.GaloisField': WHATEVER THE INPUT: true; the input reads as it did. -/
def galoisFieldSpec : ChangeSpec := { name := "galoisField", fn := fun _ => fun
  | [d1, d2, d3] => { results := [.lit (.bool true)], args := [d1, d2, d3] }
  | _ => none }
def galoisFieldRow : OpenClaim := { program := "ytmjdfchplidbgaadoor", sum := "c54037adcdc83c669cbe4de1c9306d92da87561270a69fa3c32e5be02eb62a8e", func := "amphora/amphoralaw01.GaloisField", spec := "galoisField", named := ["amphora/galois.fold"], apart := false, laid := [("amphora/galois.fold", laid_amphora_galois_fold)] }
def GaloisFieldSaid : Prop := galoisFieldRow.holds Tryd.pinned (OpenSpec.ofChange galoisFieldSpec)

/-- ITS FALSE NEIGHBOUR: 'it returns false'. Refute it at one input. -/
def galoisFieldWrong : ChangeSpec := { name := "galoisField", fn := fun _ => fun
  | [d1, d2, d3] => { results := [.lit (.bool false)], args := [d1, d2, d3] }
  | _ => none }
def GaloisFieldWrongFalsely : Prop := galoisFieldRow.holds Tryd.pinned (OpenSpec.ofChange galoisFieldWrong)

/-- 'amphoralaw01.GaloisQuotients': WHATEVER THE INPUT: true; the input reads as it did. -/
def galoisQuotientsSpec : ChangeSpec := { name := "galoisQuotients", fn := fun _ => fun
  | [d1, d2] => { results := [.lit (.bool true)], args := [d1, d2] }
  | _ => none }
def galoisQuotientsRow : OpenClaim := { program := "ytmjdfchplidbgaadoor", sum := "c54037adcdc83c669cbe4de1c9306d92da87561270a69fa3c32e5be02eb62a8e", func := "amphora/amphoralaw01.GaloisQuotients", spec := "galoisQuotients", named := ["amphora/galois.fold"], apart := false, laid := [("amphora/galois.fold", laid_amphora_galois_fold)] }
def GaloisQuotientsSaid : Prop := galoisQuotientsRow.holds Tryd.pinned (OpenSpec.ofChange galoisQuotientsSpec)

/-- ITS FALSE NEIGHBOUR: 'it returns false'. Refute it at one input. -/
def galoisQuotientsWrong : ChangeSpec := { name := "galoisQuotients", fn := fun _ => fun
  | [d1, d2] => { results := [.lit (.bool false)], args := [d1, d2] }
  | _ => none }
def GaloisQuotientsWrongFalsely : Prop := galoisQuotientsRow.holds Tryd.pinned (OpenSpec.ofChange galoisQuotientsWrong)

/-- 'amphoralaw01.GaloisTells': WHATEVER THE INPUT: true; the input reads as it did. -/
def galoisTellsSpec : ChangeSpec := { name := "galoisTells", fn := fun _ => fun
  | [d1, d2] => { results := [.lit (.bool true)], args := [d1, d2] }
  | _ => none }
def galoisTellsRow : OpenClaim := { program := "ytmjdfchplidbgaadoor", sum := "c54037adcdc83c669cbe4de1c9306d92da87561270a69fa3c32e5be02eb62a8e", func := "amphora/amphoralaw01.GaloisTells", spec := "galoisTells", named := ["amphora/galois.fold"], apart := false, laid := [("amphora/galois.fold", laid_amphora_galois_fold)] }
def GaloisTellsSaid : Prop := galoisTellsRow.holds Tryd.pinned (OpenSpec.ofChange galoisTellsSpec)

/-- ITS FALSE NEIGHBOUR: 'it returns false'. Refute it at one input. -/
def galoisTellsWrong : ChangeSpec := { name := "galoisTells", fn := fun _ => fun
  | [d1, d2] => { results := [.lit (.bool false)], args := [d1, d2] }
  | _ => none }
def GaloisTellsWrongFalsely : Prop := galoisTellsRow.holds Tryd.pinned (OpenSpec.ofChange galoisTellsWrong)

/-- 'amphoralaw01.GaloisPows': WHATEVER THE INPUT: true; the input reads as it did. -/
def galoisPowsSpec : ChangeSpec := { name := "galoisPows", fn := fun _ => fun
  | [d1, d2] => { results := [.lit (.bool true)], args := [d1, d2] }
  | _ => none }
def galoisPowsRow : OpenClaim := { program := "ytmjdfchplidbgaadoor", sum := "c54037adcdc83c669cbe4de1c9306d92da87561270a69fa3c32e5be02eb62a8e", func := "amphora/amphoralaw01.GaloisPows", spec := "galoisPows", named := ["amphora/galois.fold"], apart := false, laid := [("amphora/galois.fold", laid_amphora_galois_fold)] }
def GaloisPowsSaid : Prop := galoisPowsRow.holds Tryd.pinned (OpenSpec.ofChange galoisPowsSpec)

/-- ITS FALSE NEIGHBOUR: 'it returns false'. Refute it at one input. -/
def galoisPowsWrong : ChangeSpec := { name := "galoisPows", fn := fun _ => fun
  | [d1, d2] => { results := [.lit (.bool false)], args := [d1, d2] }
  | _ => none }
def GaloisPowsWrongFalsely : Prop := galoisPowsRow.holds Tryd.pinned (OpenSpec.ofChange galoisPowsWrong)

/-- 'amphoralaw01.GaloisSquares': WHATEVER THE INPUT: true; the input reads as it did. -/
def galoisSquaresSpec : ChangeSpec := { name := "galoisSquares", fn := fun _ => fun
  | [d1, d2] => { results := [.lit (.bool true)], args := [d1, d2] }
  | _ => none }
def galoisSquaresRow : OpenClaim := { program := "ytmjdfchplidbgaadoor", sum := "c54037adcdc83c669cbe4de1c9306d92da87561270a69fa3c32e5be02eb62a8e", func := "amphora/amphoralaw01.GaloisSquares", spec := "galoisSquares", named := ["amphora/galois.fold"], apart := false, laid := [("amphora/galois.fold", laid_amphora_galois_fold)] }
def GaloisSquaresSaid : Prop := galoisSquaresRow.holds Tryd.pinned (OpenSpec.ofChange galoisSquaresSpec)

/-- ITS FALSE NEIGHBOUR: 'it returns false'. Refute it at one input. -/
def galoisSquaresWrong : ChangeSpec := { name := "galoisSquares", fn := fun _ => fun
  | [d1, d2] => { results := [.lit (.bool false)], args := [d1, d2] }
  | _ => none }
def GaloisSquaresWrongFalsely : Prop := galoisSquaresRow.holds Tryd.pinned (OpenSpec.ofChange galoisSquaresWrong)

/-- 'amphoralaw01.GaloisExp': WHATEVER THE INPUT: true; the input reads as it did. -/
def galoisExpSpec : ChangeSpec := { name := "galoisExp", fn := fun _ => fun
  | [d1, d2, d3] => { results := [.lit (.bool true)], args := [d1, d2, d3] }
  | _ => none }
def galoisExpRow : OpenClaim := { program := "ytmjdfchplidbgaadoor", sum := "c54037adcdc83c669cbe4de1c9306d92da87561270a69fa3c32e5be02eb62a8e", func := "amphora/amphoralaw01.GaloisExp", spec := "galoisExp", named := ["amphora/galois.fold"], apart := false, laid := [("amphora/galois.fold", laid_amphora_galois_fold)] }
def GaloisExpSaid : Prop := galoisExpRow.holds Tryd.pinned (OpenSpec.ofChange galoisExpSpec)

/-- ITS FALSE NEIGHBOUR: 'it returns false'. Refute it at one input. -/
def galoisExpWrong : ChangeSpec := { name := "galoisExp", fn := fun _ => fun
  | [d1, d2, d3] => { results := [.lit (.bool false)], args := [d1, d2, d3] }
  | _ => none }
def GaloisExpWrongFalsely : Prop := galoisExpRow.holds Tryd.pinned (OpenSpec.ofChange galoisExpWrong)

/-- 'amphoralaw01.GaloisPowers': WHATEVER THE INPUT: true; the input reads as it did. -/
def galoisPowersSpec : ChangeSpec := { name := "galoisPowers", fn := fun _ => fun
  | [d1, d2] => { results := [.lit (.bool true)], args := [d1, d2] }
  | _ => none }
def galoisPowersRow : OpenClaim := { program := "ytmjdfchplidbgaadoor", sum := "c54037adcdc83c669cbe4de1c9306d92da87561270a69fa3c32e5be02eb62a8e", func := "amphora/amphoralaw01.GaloisPowers", spec := "galoisPowers", named := ["amphora/galois.fold"], apart := false, laid := [("amphora/galois.fold", laid_amphora_galois_fold)] }
def GaloisPowersSaid : Prop := galoisPowersRow.holds Tryd.pinned (OpenSpec.ofChange galoisPowersSpec)

/-- ITS FALSE NEIGHBOUR: 'it returns false'. Refute it at one input. -/
def galoisPowersWrong : ChangeSpec := { name := "galoisPowers", fn := fun _ => fun
  | [d1, d2] => { results := [.lit (.bool false)], args := [d1, d2] }
  | _ => none }
def GaloisPowersWrongFalsely : Prop := galoisPowersRow.holds Tryd.pinned (OpenSpec.ofChange galoisPowersWrong)

/- THE SECOND FORM. 'bulk': how many values and letters a reading holds, each counted each time it is reached (what is shared counts as often as it is met; a slice's spare places count too). A statement '..UptoSaid' is the law's where the arguments, and the package variables that the reading takes, are together of bulk at most 1048576: NARROWER than '..Said'. Prove '..Said' where nothing that the law and all that it calls make is longer than what came in: it says more and counts as full. Else prove '..UptoSaid'. A law counts once. -/
mutual
def uptoBulk {H : Type} : DataW H → Nat
  | .lit (.string bytes) => bytes.length + 1
  | .lit _ => 1
  | .nil => 1
  | .ptr d => uptoBulk d + 1
  | .slice elems spare => uptoBulkAll elems + uptoBulkAll spare + 1
  | .agg parts => uptoBulkAll parts + 1
  | .iface _ d => uptoBulk d + 1
  | .map entries => uptoBulkEntries entries + 1
  | .held _ => 1
def uptoBulkAll {H : Type} : List (DataW H) → Nat
  | [] => 0
  | d :: r => uptoBulk d + uptoBulkAll r
def uptoBulkEntries {H : Type} : List (Lit × DataW H) → Nat
  | [] => 0
  | x :: r => uptoBulkEntry x + uptoBulkEntries r
def uptoBulkEntry {H : Type} : Lit × DataW H → Nat
  | (.string bytes, d) => bytes.length + uptoBulk d + 1
  | (_, d) => uptoBulk d + 1
 end
def uptoSmall : (H : Type) → List (DataW H) → Bool := fun _ ds => decide (uptoBulkAll ds ≤ 1048576)
def OpenSpec.upto (s : _root_.Go.ChangeSpec) : _root_.Go.OpenSpec := { _root_.Go.OpenSpec.ofChange s with cond := some uptoSmall }

/-- 'amphoralaw01.GaloisField', WHERE WHAT IT READS IS OF BULK AT MOST 1048576: true; the input reads as it did. -/
def galoisFieldUptoRow : OpenClaim := { program := "ytmjdfchplidbgaadoor", sum := "c54037adcdc83c669cbe4de1c9306d92da87561270a69fa3c32e5be02eb62a8e", func := "amphora/amphoralaw01.GaloisField", spec := "galoisField", named := ["amphora/galois.fold"], apart := false, laid := [("amphora/galois.fold", laid_amphora_galois_fold)], narrowed := true }
def GaloisFieldUptoSaid : Prop := galoisFieldUptoRow.holds Tryd.pinned (OpenSpec.upto galoisFieldSpec)

/-- 'amphoralaw01.GaloisQuotients', WHERE WHAT IT READS IS OF BULK AT MOST 1048576: true; the input reads as it did. -/
def galoisQuotientsUptoRow : OpenClaim := { program := "ytmjdfchplidbgaadoor", sum := "c54037adcdc83c669cbe4de1c9306d92da87561270a69fa3c32e5be02eb62a8e", func := "amphora/amphoralaw01.GaloisQuotients", spec := "galoisQuotients", named := ["amphora/galois.fold"], apart := false, laid := [("amphora/galois.fold", laid_amphora_galois_fold)], narrowed := true }
def GaloisQuotientsUptoSaid : Prop := galoisQuotientsUptoRow.holds Tryd.pinned (OpenSpec.upto galoisQuotientsSpec)

/-- 'amphoralaw01.GaloisTells', WHERE WHAT IT READS IS OF BULK AT MOST 1048576: true; the input reads as it did. -/
def galoisTellsUptoRow : OpenClaim := { program := "ytmjdfchplidbgaadoor", sum := "c54037adcdc83c669cbe4de1c9306d92da87561270a69fa3c32e5be02eb62a8e", func := "amphora/amphoralaw01.GaloisTells", spec := "galoisTells", named := ["amphora/galois.fold"], apart := false, laid := [("amphora/galois.fold", laid_amphora_galois_fold)], narrowed := true }
def GaloisTellsUptoSaid : Prop := galoisTellsUptoRow.holds Tryd.pinned (OpenSpec.upto galoisTellsSpec)

/-- 'amphoralaw01.GaloisPows', WHERE WHAT IT READS IS OF BULK AT MOST 1048576: true; the input reads as it did. -/
def galoisPowsUptoRow : OpenClaim := { program := "ytmjdfchplidbgaadoor", sum := "c54037adcdc83c669cbe4de1c9306d92da87561270a69fa3c32e5be02eb62a8e", func := "amphora/amphoralaw01.GaloisPows", spec := "galoisPows", named := ["amphora/galois.fold"], apart := false, laid := [("amphora/galois.fold", laid_amphora_galois_fold)], narrowed := true }
def GaloisPowsUptoSaid : Prop := galoisPowsUptoRow.holds Tryd.pinned (OpenSpec.upto galoisPowsSpec)

/-- 'amphoralaw01.GaloisSquares', WHERE WHAT IT READS IS OF BULK AT MOST 1048576: true; the input reads as it did. -/
def galoisSquaresUptoRow : OpenClaim := { program := "ytmjdfchplidbgaadoor", sum := "c54037adcdc83c669cbe4de1c9306d92da87561270a69fa3c32e5be02eb62a8e", func := "amphora/amphoralaw01.GaloisSquares", spec := "galoisSquares", named := ["amphora/galois.fold"], apart := false, laid := [("amphora/galois.fold", laid_amphora_galois_fold)], narrowed := true }
def GaloisSquaresUptoSaid : Prop := galoisSquaresUptoRow.holds Tryd.pinned (OpenSpec.upto galoisSquaresSpec)

/-- 'amphoralaw01.GaloisExp', WHERE WHAT IT READS IS OF BULK AT MOST 1048576: true; the input reads as it did. -/
def galoisExpUptoRow : OpenClaim := { program := "ytmjdfchplidbgaadoor", sum := "c54037adcdc83c669cbe4de1c9306d92da87561270a69fa3c32e5be02eb62a8e", func := "amphora/amphoralaw01.GaloisExp", spec := "galoisExp", named := ["amphora/galois.fold"], apart := false, laid := [("amphora/galois.fold", laid_amphora_galois_fold)], narrowed := true }
def GaloisExpUptoSaid : Prop := galoisExpUptoRow.holds Tryd.pinned (OpenSpec.upto galoisExpSpec)

/-- 'amphoralaw01.GaloisPowers', WHERE WHAT IT READS IS OF BULK AT MOST 1048576: true; the input reads as it did. -/
def galoisPowersUptoRow : OpenClaim := { program := "ytmjdfchplidbgaadoor", sum := "c54037adcdc83c669cbe4de1c9306d92da87561270a69fa3c32e5be02eb62a8e", func := "amphora/amphoralaw01.GaloisPowers", spec := "galoisPowers", named := ["amphora/galois.fold"], apart := false, laid := [("amphora/galois.fold", laid_amphora_galois_fold)], narrowed := true }
def GaloisPowersUptoSaid : Prop := galoisPowersUptoRow.holds Tryd.pinned (OpenSpec.upto galoisPowersSpec)

end Rows
end Go.Proofs.YtmjdfchplidbgaaDoor
