/-
  No cell of these rows narrows 'for every input' (looked for: loops, veiled, ifaces, maps, wideKeys, modest, calm, conditions, laid).
  DERIVED. THE GIVEN ROWS OF THIS SEAT. 10 by the template 'for every input the law returns true; each argument reads behind the call as it read before'; 0 by the template 'total and deterministic' (their statements: YtkcelehlilppcaaGreatTotals.lean).
  GIVEN WITH THE SEED: the statements are not yours to turn. If you find one false, say at which input.
  Laid BY PROGRAM, IN A SANDBOX (cutbox-rows.mjs): the forced cells as the released guide's own fill.sh prints them over the translation 0b30489b9e70862b… (all of the seat's roots in one cut). By AI agents, Wed Nov 11 2026. No macro, syntax, notation, axiom, sorry.
-/
import Derived.Test.YtkcelehlilppcaaGreatChecked
import GoSem.Claim
import GoSem.ClaimJoined
import GoSem.ClaimMapViews
import Derived.JoinedTies
import Derived.KernelRfl
namespace Go.Proofs.YtkcelehlilppcaaGreat
/- THE CELL 'sum', in the pinned program and in every row, IS THE sha256 OF THE DUMP (.gsa) THAT YtkcelehlilppcaaGreatProg.lean LOADS. Nothing in Lean hashes anything: it is a label: what it is worth is what the hold of that sum in a sandbox is worth. -/
noncomputable def Tryz.pinned : Pinned := { name := "ytkcelehlilppcaagreat", sum := "0b30489b9e70862bacc6f6138bbfd9de4d640230964fe475db92eca4292ef41b", checked := Tryz.checked }
namespace Rows
def none {H : Type} : Left H := { results := [], args := [] }

/-- 'secateurlaw19.StepReckons': WHATEVER THE INPUT: true; the input reads as it did. -/
def stepReckonsSpec : ChangeSpec := { name := "stepReckons", fn := fun _ => fun
  | [d1, d2, d3] => { results := [.lit (.bool true)], args := [d1, d2, d3] }
  | _ => none }
def stepReckonsRow : OpenClaim := { program := "ytkcelehlilppcaagreat", sum := "0b30489b9e70862bacc6f6138bbfd9de4d640230964fe475db92eca4292ef41b", func := "secateur/secateurlaw19.StepReckons", spec := "stepReckons", inPlace := ["internal/bytealg.IndexByteString", "internal/bytealg.IndexString", "internal/bytealg.abigen_runtime_cmpstring"], unfollowed := true, recurses := true, named := ["internal/bytealg.MaxLen"], plainKeys := false, apart := false }
def StepReckonsSaid : Prop := stepReckonsRow.holds Tryz.pinned (OpenSpec.ofChange stepReckonsSpec)

/-- ITS FALSE NEIGHBOUR: 'it returns false'. Refute it at one input. -/
def stepReckonsWrong : ChangeSpec := { name := "stepReckons", fn := fun _ => fun
  | [d1, d2, d3] => { results := [.lit (.bool false)], args := [d1, d2, d3] }
  | _ => none }
def StepReckonsWrongFalsely : Prop := stepReckonsRow.holds Tryz.pinned (OpenSpec.ofChange stepReckonsWrong)

/-- 'secateurlaw19.StepGrows': WHATEVER THE INPUT: true; the input reads as it did. -/
def stepGrowsSpec : ChangeSpec := { name := "stepGrows", fn := fun _ => fun
  | [d1, d2] => { results := [.lit (.bool true)], args := [d1, d2] }
  | _ => none }
def stepGrowsRow : OpenClaim := { program := "ytkcelehlilppcaagreat", sum := "0b30489b9e70862bacc6f6138bbfd9de4d640230964fe475db92eca4292ef41b", func := "secateur/secateurlaw19.StepGrows", spec := "stepGrows", inPlace := ["internal/bytealg.IndexByteString", "internal/bytealg.IndexString", "internal/bytealg.abigen_runtime_cmpstring"], unfollowed := true, recurses := true, named := ["internal/bytealg.MaxLen"], plainKeys := false, apart := false }
def StepGrowsSaid : Prop := stepGrowsRow.holds Tryz.pinned (OpenSpec.ofChange stepGrowsSpec)

/-- ITS FALSE NEIGHBOUR: 'it returns false'. Refute it at one input. -/
def stepGrowsWrong : ChangeSpec := { name := "stepGrows", fn := fun _ => fun
  | [d1, d2] => { results := [.lit (.bool false)], args := [d1, d2] }
  | _ => none }
def StepGrowsWrongFalsely : Prop := stepGrowsRow.holds Tryz.pinned (OpenSpec.ofChange stepGrowsWrong)

/-- 'secateurlaw19.StepSound': WHATEVER THE INPUT: true; the input reads as it did. -/
def stepSoundSpec : ChangeSpec := { name := "stepSound", fn := fun _ => fun
  | [d1, d2] => { results := [.lit (.bool true)], args := [d1, d2] }
  | _ => none }
def stepSoundRow : OpenClaim := { program := "ytkcelehlilppcaagreat", sum := "0b30489b9e70862bacc6f6138bbfd9de4d640230964fe475db92eca4292ef41b", func := "secateur/secateurlaw19.StepSound", spec := "stepSound", inPlace := ["internal/bytealg.IndexByteString", "internal/bytealg.IndexString", "internal/bytealg.abigen_runtime_cmpstring"], unfollowed := true, recurses := true, named := ["internal/bytealg.MaxLen"], plainKeys := false, apart := false }
def StepSoundSaid : Prop := stepSoundRow.holds Tryz.pinned (OpenSpec.ofChange stepSoundSpec)

/-- ITS FALSE NEIGHBOUR: 'it returns false'. Refute it at one input. -/
def stepSoundWrong : ChangeSpec := { name := "stepSound", fn := fun _ => fun
  | [d1, d2] => { results := [.lit (.bool false)], args := [d1, d2] }
  | _ => none }
def StepSoundWrongFalsely : Prop := stepSoundRow.holds Tryz.pinned (OpenSpec.ofChange stepSoundWrong)

/-- 'secateurlaw19.StepNone': WHATEVER THE INPUT: true; the input reads as it did. -/
def stepNoneSpec : ChangeSpec := { name := "stepNone", fn := fun _ => fun
  | [d1, d2] => { results := [.lit (.bool true)], args := [d1, d2] }
  | _ => none }
def stepNoneRow : OpenClaim := { program := "ytkcelehlilppcaagreat", sum := "0b30489b9e70862bacc6f6138bbfd9de4d640230964fe475db92eca4292ef41b", func := "secateur/secateurlaw19.StepNone", spec := "stepNone", inPlace := ["internal/bytealg.IndexByteString", "internal/bytealg.IndexString", "internal/bytealg.abigen_runtime_cmpstring"], unfollowed := true, recurses := true, named := ["internal/bytealg.MaxLen"], plainKeys := false, apart := false }
def StepNoneSaid : Prop := stepNoneRow.holds Tryz.pinned (OpenSpec.ofChange stepNoneSpec)

/-- ITS FALSE NEIGHBOUR: 'it returns false'. Refute it at one input. -/
def stepNoneWrong : ChangeSpec := { name := "stepNone", fn := fun _ => fun
  | [d1, d2] => { results := [.lit (.bool false)], args := [d1, d2] }
  | _ => none }
def StepNoneWrongFalsely : Prop := stepNoneRow.holds Tryz.pinned (OpenSpec.ofChange stepNoneWrong)

/-- 'secateurlaw20.RunIs': WHATEVER THE INPUT: true; the input reads as it did. -/
def runIsSpec : ChangeSpec := { name := "runIs", fn := fun _ => fun
  | [d1, d2, d3] => { results := [.lit (.bool true)], args := [d1, d2, d3] }
  | _ => none }
def runIsRow : OpenClaim := { program := "ytkcelehlilppcaagreat", sum := "0b30489b9e70862bacc6f6138bbfd9de4d640230964fe475db92eca4292ef41b", func := "secateur/secateurlaw20.RunIs", spec := "runIs", inPlace := ["internal/bytealg.IndexByteString", "internal/bytealg.IndexString", "internal/bytealg.abigen_runtime_cmpstring"], unfollowed := true, recurses := true, named := ["internal/bytealg.MaxLen"], plainKeys := false, apart := false }
def RunIsSaid : Prop := runIsRow.holds Tryz.pinned (OpenSpec.ofChange runIsSpec)

/-- ITS FALSE NEIGHBOUR: 'it returns false'. Refute it at one input. -/
def runIsWrong : ChangeSpec := { name := "runIs", fn := fun _ => fun
  | [d1, d2, d3] => { results := [.lit (.bool false)], args := [d1, d2, d3] }
  | _ => none }
def RunIsWrongFalsely : Prop := runIsRow.holds Tryz.pinned (OpenSpec.ofChange runIsWrong)

/-- 'secateurlaw20.RunMarks': WHATEVER THE INPUT: true; the input reads as it did. -/
def runMarksSpec : ChangeSpec := { name := "runMarks", fn := fun _ => fun
  | [d1, d2, d3] => { results := [.lit (.bool true)], args := [d1, d2, d3] }
  | _ => none }
def runMarksRow : OpenClaim := { program := "ytkcelehlilppcaagreat", sum := "0b30489b9e70862bacc6f6138bbfd9de4d640230964fe475db92eca4292ef41b", func := "secateur/secateurlaw20.RunMarks", spec := "runMarks", inPlace := ["internal/bytealg.IndexByteString", "internal/bytealg.IndexString", "internal/bytealg.abigen_runtime_cmpstring"], unfollowed := true, recurses := true, named := ["internal/bytealg.MaxLen"], plainKeys := false, apart := false }
def RunMarksSaid : Prop := runMarksRow.holds Tryz.pinned (OpenSpec.ofChange runMarksSpec)

/-- ITS FALSE NEIGHBOUR: 'it returns false'. Refute it at one input. -/
def runMarksWrong : ChangeSpec := { name := "runMarks", fn := fun _ => fun
  | [d1, d2, d3] => { results := [.lit (.bool false)], args := [d1, d2, d3] }
  | _ => none }
def RunMarksWrongFalsely : Prop := runMarksRow.holds Tryz.pinned (OpenSpec.ofChange runMarksWrong)

/-- 'secateurlaw20.RunMore': WHATEVER THE INPUT: true; the input reads as it did. -/
def runMoreSpec : ChangeSpec := { name := "runMore", fn := fun _ => fun
  | [d1, d2, d3] => { results := [.lit (.bool true)], args := [d1, d2, d3] }
  | _ => none }
def runMoreRow : OpenClaim := { program := "ytkcelehlilppcaagreat", sum := "0b30489b9e70862bacc6f6138bbfd9de4d640230964fe475db92eca4292ef41b", func := "secateur/secateurlaw20.RunMore", spec := "runMore", inPlace := ["internal/bytealg.IndexByteString", "internal/bytealg.IndexString", "internal/bytealg.abigen_runtime_cmpstring"], unfollowed := true, recurses := true, named := ["internal/bytealg.MaxLen"], plainKeys := false, apart := false }
def RunMoreSaid : Prop := runMoreRow.holds Tryz.pinned (OpenSpec.ofChange runMoreSpec)

/-- ITS FALSE NEIGHBOUR: 'it returns false'. Refute it at one input. -/
def runMoreWrong : ChangeSpec := { name := "runMore", fn := fun _ => fun
  | [d1, d2, d3] => { results := [.lit (.bool false)], args := [d1, d2, d3] }
  | _ => none }
def RunMoreWrongFalsely : Prop := runMoreRow.holds Tryz.pinned (OpenSpec.ofChange runMoreWrong)

/-- 'secateurlaw20.RunFuel': WHATEVER THE INPUT: true; the input reads as it did. -/
def runFuelSpec : ChangeSpec := { name := "runFuel", fn := fun _ => fun
  | [d1, d2, d3] => { results := [.lit (.bool true)], args := [d1, d2, d3] }
  | _ => none }
def runFuelRow : OpenClaim := { program := "ytkcelehlilppcaagreat", sum := "0b30489b9e70862bacc6f6138bbfd9de4d640230964fe475db92eca4292ef41b", func := "secateur/secateurlaw20.RunFuel", spec := "runFuel", inPlace := ["internal/bytealg.IndexByteString", "internal/bytealg.IndexString", "internal/bytealg.abigen_runtime_cmpstring"], unfollowed := true, recurses := true, named := ["internal/bytealg.MaxLen"], plainKeys := false, apart := false }
def RunFuelSaid : Prop := runFuelRow.holds Tryz.pinned (OpenSpec.ofChange runFuelSpec)

/-- ITS FALSE NEIGHBOUR: 'it returns false'. Refute it at one input. -/
def runFuelWrong : ChangeSpec := { name := "runFuel", fn := fun _ => fun
  | [d1, d2, d3] => { results := [.lit (.bool false)], args := [d1, d2, d3] }
  | _ => none }
def RunFuelWrongFalsely : Prop := runFuelRow.holds Tryz.pinned (OpenSpec.ofChange runFuelWrong)

/-- 'secateurlaw20.RunAlike': WHATEVER THE INPUT: true; the input reads as it did. -/
def runAlikeSpec : ChangeSpec := { name := "runAlike", fn := fun _ => fun
  | [d1, d2, d3] => { results := [.lit (.bool true)], args := [d1, d2, d3] }
  | _ => none }
def runAlikeRow : OpenClaim := { program := "ytkcelehlilppcaagreat", sum := "0b30489b9e70862bacc6f6138bbfd9de4d640230964fe475db92eca4292ef41b", func := "secateur/secateurlaw20.RunAlike", spec := "runAlike", inPlace := ["internal/bytealg.IndexByteString", "internal/bytealg.IndexString", "internal/bytealg.abigen_runtime_cmpstring"], unfollowed := true, recurses := true, named := ["internal/bytealg.MaxLen"], plainKeys := false, apart := false }
def RunAlikeSaid : Prop := runAlikeRow.holds Tryz.pinned (OpenSpec.ofChange runAlikeSpec)

/-- ITS FALSE NEIGHBOUR: 'it returns false'. Refute it at one input. -/
def runAlikeWrong : ChangeSpec := { name := "runAlike", fn := fun _ => fun
  | [d1, d2, d3] => { results := [.lit (.bool false)], args := [d1, d2, d3] }
  | _ => none }
def RunAlikeWrongFalsely : Prop := runAlikeRow.holds Tryz.pinned (OpenSpec.ofChange runAlikeWrong)

/-- 'secateurtop.TopTyped': WHATEVER THE INPUT: true; the input reads as it did. -/
def topTypedSpec : ChangeSpec := { name := "topTyped", fn := fun _ => fun
  | [d1, d2] => { results := [.lit (.bool true)], args := [d1, d2] }
  | _ => none }
def topTypedRow : OpenClaim := { program := "ytkcelehlilppcaagreat", sum := "0b30489b9e70862bacc6f6138bbfd9de4d640230964fe475db92eca4292ef41b", func := "secateur/secateurtop.TopTyped", spec := "topTyped", inPlace := ["internal/bytealg.IndexByteString", "internal/bytealg.IndexString", "internal/bytealg.abigen_runtime_cmpstring"], unfollowed := true, recurses := true, named := ["internal/bytealg.MaxLen"], plainKeys := false, apart := false }
def TopTypedSaid : Prop := topTypedRow.holds Tryz.pinned (OpenSpec.ofChange topTypedSpec)

/-- ITS FALSE NEIGHBOUR: 'it returns false'. Refute it at one input. -/
def topTypedWrong : ChangeSpec := { name := "topTyped", fn := fun _ => fun
  | [d1, d2] => { results := [.lit (.bool false)], args := [d1, d2] }
  | _ => none }
def TopTypedWrongFalsely : Prop := topTypedRow.holds Tryz.pinned (OpenSpec.ofChange topTypedWrong)

/- THE SECOND FORM. 'bulk': how many values and letters a reading holds, each counted each time it is reached (what is shared counts as often as it is met; a slice's spare places count too). A statement '..UptoSaid' is the law's where the arguments, and the package variables that the reading takes, are together of bulk at most 1048576: NARROWER than '..Said'. Prove '..Said' where nothing that the law and all that it calls make is longer than what came in: it says more and counts as full. Else prove '..UptoSaid'. A law counts once. -/
mutual
def uptoBulk {H : Type} : DataW H → Nat
  | .lit (.string bytes) => bytes.length + 1
  | .lit _ => 1
  | .nil => 1
  | .ptr d => uptoBulk d + 1
  | .slice elems spare => uptoBulkAll elems + uptoBulkAll spare + 1
  | .agg parts => uptoBulkAll parts + 1
  | .iface _ d => uptoBulk d + 1
  | .map entries => uptoBulkEntries entries + 1
  | .held _ => 1
def uptoBulkAll {H : Type} : List (DataW H) → Nat
  | [] => 0
  | d :: r => uptoBulk d + uptoBulkAll r
def uptoBulkEntries {H : Type} : List (Lit × DataW H) → Nat
  | [] => 0
  | x :: r => uptoBulkEntry x + uptoBulkEntries r
def uptoBulkEntry {H : Type} : Lit × DataW H → Nat
  | (.string bytes, d) => bytes.length + uptoBulk d + 1
  | (_, d) => uptoBulk d + 1
 end
def uptoSmall : (H : Type) → List (DataW H) → Bool := fun _ ds => decide (uptoBulkAll ds ≤ 1048576)
def OpenSpec.upto (s : _root_.Go.ChangeSpec) : _root_.Go.OpenSpec := { _root_.Go.OpenSpec.ofChange s with cond := some uptoSmall }

/-- 'secateurlaw19.StepReckons', WHERE WHAT IT READS IS OF BULK AT MOST 1048576: true; the input reads as it did. -/
def stepReckonsUptoRow : OpenClaim := { program := "ytkcelehlilppcaagreat", sum := "0b30489b9e70862bacc6f6138bbfd9de4d640230964fe475db92eca4292ef41b", func := "secateur/secateurlaw19.StepReckons", spec := "stepReckons", inPlace := ["internal/bytealg.IndexByteString", "internal/bytealg.IndexString", "internal/bytealg.abigen_runtime_cmpstring"], unfollowed := true, recurses := true, named := ["internal/bytealg.MaxLen"], plainKeys := false, apart := false, narrowed := true }
def StepReckonsUptoSaid : Prop := stepReckonsUptoRow.holds Tryz.pinned (OpenSpec.upto stepReckonsSpec)

/-- 'secateurlaw19.StepGrows', WHERE WHAT IT READS IS OF BULK AT MOST 1048576: true; the input reads as it did. -/
def stepGrowsUptoRow : OpenClaim := { program := "ytkcelehlilppcaagreat", sum := "0b30489b9e70862bacc6f6138bbfd9de4d640230964fe475db92eca4292ef41b", func := "secateur/secateurlaw19.StepGrows", spec := "stepGrows", inPlace := ["internal/bytealg.IndexByteString", "internal/bytealg.IndexString", "internal/bytealg.abigen_runtime_cmpstring"], unfollowed := true, recurses := true, named := ["internal/bytealg.MaxLen"], plainKeys := false, apart := false, narrowed := true }
def StepGrowsUptoSaid : Prop := stepGrowsUptoRow.holds Tryz.pinned (OpenSpec.upto stepGrowsSpec)

/-- 'secateurlaw19.StepSound', WHERE WHAT IT READS IS OF BULK AT MOST 1048576: true; the input reads as it did. -/
def stepSoundUptoRow : OpenClaim := { program := "ytkcelehlilppcaagreat", sum := "0b30489b9e70862bacc6f6138bbfd9de4d640230964fe475db92eca4292ef41b", func := "secateur/secateurlaw19.StepSound", spec := "stepSound", inPlace := ["internal/bytealg.IndexByteString", "internal/bytealg.IndexString", "internal/bytealg.abigen_runtime_cmpstring"], unfollowed := true, recurses := true, named := ["internal/bytealg.MaxLen"], plainKeys := false, apart := false, narrowed := true }
def StepSoundUptoSaid : Prop := stepSoundUptoRow.holds Tryz.pinned (OpenSpec.upto stepSoundSpec)

/-- 'secateurlaw19.StepNone', WHERE WHAT IT READS IS OF BULK AT MOST 1048576: true; the input reads as it did. -/
def stepNoneUptoRow : OpenClaim := { program := "ytkcelehlilppcaagreat", sum := "0b30489b9e70862bacc6f6138bbfd9de4d640230964fe475db92eca4292ef41b", func := "secateur/secateurlaw19.StepNone", spec := "stepNone", inPlace := ["internal/bytealg.IndexByteString", "internal/bytealg.IndexString", "internal/bytealg.abigen_runtime_cmpstring"], unfollowed := true, recurses := true, named := ["internal/bytealg.MaxLen"], plainKeys := false, apart := false, narrowed := true }
def StepNoneUptoSaid : Prop := stepNoneUptoRow.holds Tryz.pinned (OpenSpec.upto stepNoneSpec)

/-- 'secateurlaw20.RunIs', WHERE WHAT IT READS IS OF BULK AT MOST 1048576: true; the input reads as it did. -/
def runIsUptoRow : OpenClaim := { program := "ytkcelehlilppcaagreat", sum := "0b30489b9e70862bacc6f6138bbfd9de4d640230964fe475db92eca4292ef41b", func := "secateur/secateurlaw20.RunIs", spec := "runIs", inPlace := ["internal/bytealg.IndexByteString", "internal/bytealg.IndexString", "internal/bytealg.abigen_runtime_cmpstring"], unfollowed := true, recurses := true, named := ["internal/bytealg.MaxLen"], plainKeys := false, apart := false, narrowed := true }
def RunIsUptoSaid : Prop := runIsUptoRow.holds Tryz.pinned (OpenSpec.upto runIsSpec)

/-- 'secateurlaw20.RunMarks', WHERE WHAT IT READS IS OF BULK AT MOST 1048576: true; the input reads as it did. -/
def runMarksUptoRow : OpenClaim := { program := "ytkcelehlilppcaagreat", sum := "0b30489b9e70862bacc6f6138bbfd9de4d640230964fe475db92eca4292ef41b", func := "secateur/secateurlaw20.RunMarks", spec := "runMarks", inPlace := ["internal/bytealg.IndexByteString", "internal/bytealg.IndexString", "internal/bytealg.abigen_runtime_cmpstring"], unfollowed := true, recurses := true, named := ["internal/bytealg.MaxLen"], plainKeys := false, apart := false, narrowed := true }
def RunMarksUptoSaid : Prop := runMarksUptoRow.holds Tryz.pinned (OpenSpec.upto runMarksSpec)

/-- 'secateurlaw20.RunMore', WHERE WHAT IT READS IS OF BULK AT MOST 1048576: true; the input reads as it did. -/
def runMoreUptoRow : OpenClaim := { program := "ytkcelehlilppcaagreat", sum := "0b30489b9e70862bacc6f6138bbfd9de4d640230964fe475db92eca4292ef41b", func := "secateur/secateurlaw20.RunMore", spec := "runMore", inPlace := ["internal/bytealg.IndexByteString", "internal/bytealg.IndexString", "internal/bytealg.abigen_runtime_cmpstring"], unfollowed := true, recurses := true, named := ["internal/bytealg.MaxLen"], plainKeys := false, apart := false, narrowed := true }
def RunMoreUptoSaid : Prop := runMoreUptoRow.holds Tryz.pinned (OpenSpec.upto runMoreSpec)

/-- 'secateurlaw20.RunFuel', WHERE WHAT IT READS IS OF BULK AT MOST 1048576: true; the input reads as it did. -/
def runFuelUptoRow : OpenClaim := { program := "ytkcelehlilppcaagreat", sum := "0b30489b9e70862bacc6f6138bbfd9de4d640230964fe475db92eca4292ef41b", func := "secateur/secateurlaw20.RunFuel", spec := "runFuel", inPlace := ["internal/bytealg.IndexByteString", "internal/bytealg.IndexString", "internal/bytealg.abigen_runtime_cmpstring"], unfollowed := true, recurses := true, named := ["internal/bytealg.MaxLen"], plainKeys := false, apart := false, narrowed := true }
def RunFuelUptoSaid : Prop := runFuelUptoRow.holds Tryz.pinned (OpenSpec.upto runFuelSpec)

/-- 'secateurlaw20.RunAlike', WHERE WHAT IT READS IS OF BULK AT MOST 1048576: true; the input reads as it did. -/
def runAlikeUptoRow : OpenClaim := { program := "ytkcelehlilppcaagreat", sum := "0b30489b9e70862bacc6f6138bbfd9de4d640230964fe475db92eca4292ef41b", func := "secateur/secateurlaw20.RunAlike", spec := "runAlike", inPlace := ["internal/bytealg.IndexByteString", "internal/bytealg.IndexString", "internal/bytealg.abigen_runtime_cmpstring"], unfollowed := true, recurses := true, named := ["internal/bytealg.MaxLen"], plainKeys := false, apart := false, narrowed := true }
def RunAlikeUptoSaid : Prop := runAlikeUptoRow.holds Tryz.pinned (OpenSpec.upto runAlikeSpec)

/-- 'secateurtop.TopTyped', WHERE WHAT IT READS IS OF BULK AT MOST 1048576: true; the input reads as it did. -/
def topTypedUptoRow : OpenClaim := { program := "ytkcelehlilppcaagreat", sum := "0b30489b9e70862bacc6f6138bbfd9de4d640230964fe475db92eca4292ef41b", func := "secateur/secateurtop.TopTyped", spec := "topTyped", inPlace := ["internal/bytealg.IndexByteString", "internal/bytealg.IndexString", "internal/bytealg.abigen_runtime_cmpstring"], unfollowed := true, recurses := true, named := ["internal/bytealg.MaxLen"], plainKeys := false, apart := false, narrowed := true }
def TopTypedUptoSaid : Prop := topTypedUptoRow.holds Tryz.pinned (OpenSpec.upto topTypedSpec)

end Rows
end Go.Proofs.YtkcelehlilppcaaGreat
