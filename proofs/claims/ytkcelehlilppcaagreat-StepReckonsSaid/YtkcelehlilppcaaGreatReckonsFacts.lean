/- The closed facts of one row, each by the kernel. No condition. -/
import Derived.Test.YtkcelehlilppcaaGreatRows
import Derived.JoinedOf
import Derived.KernelRfl
namespace Go.Proofs.YtkcelehlilppcaaGreat.stepReckons
open Go
set_option linter.unusedVariables false

def q0 (P : Program) (f : FuncId) (fn : Func) (s : ChangeSpec) (c : OpenClaim) : Bool := c.wf (OpenSpec.ofChange s)
def q1 (P : Program) (f : FuncId) (fn : Func) (s : ChangeSpec) (c : OpenClaim) : Bool := laidOutB P
def q2 (P : Program) (f : FuncId) (fn : Func) (s : ChangeSpec) (c : OpenClaim) : Bool := mapsRowed P
def q3 (P : Program) (f : FuncId) (fn : Func) (s : ChangeSpec) (c : OpenClaim) : Bool := fn.params.all (P.readableRec ·)
def q4 (P : Program) (f : FuncId) (fn : Func) (s : ChangeSpec) (c : OpenClaim) : Bool := namedTie P c.named s.vars
def q5 (P : Program) (f : FuncId) (fn : Func) (s : ChangeSpec) (c : OpenClaim) : Bool := (c.stops == [])
def q6 (P : Program) (f : FuncId) (fn : Func) (s : ChangeSpec) (c : OpenClaim) : Bool := (P.stops == [])
def q7 (P : Program) (f : FuncId) (fn : Func) (s : ChangeSpec) (c : OpenClaim) : Bool := (c.knobs == [])
def q8 (P : Program) (f : FuncId) (fn : Func) (s : ChangeSpec) (c : OpenClaim) : Bool := (P.stopKnobs == [])
def q9 (P : Program) (f : FuncId) (fn : Func) (s : ChangeSpec) (c : OpenClaim) : Bool := (c.inPlace == P.inPlace f)
def q10 (P : Program) (f : FuncId) (fn : Func) (s : ChangeSpec) (c : OpenClaim) : Bool := (c.unfollowed == P.unfollowed f)
def q11 (P : Program) (f : FuncId) (fn : Func) (s : ChangeSpec) (c : OpenClaim) : Bool := (c.recurses == P.recurses f)
def q12 (P : Program) (f : FuncId) (fn : Func) (s : ChangeSpec) (c : OpenClaim) : Bool := (c.named == P.varsNamed f)
def q13 (P : Program) (f : FuncId) (fn : Func) (s : ChangeSpec) (c : OpenClaim) : Bool := (c.maps == (fn.params.toList ++ s.plain.varTypes P).any (P.mapsRec ·))
def q14 (P : Program) (f : FuncId) (fn : Func) (s : ChangeSpec) (c : OpenClaim) : Bool := (c.ifaces == (fn.params.toList ++ s.plain.varTypes P).any (P.ifacesRec ·))
def q15 (P : Program) (f : FuncId) (fn : Func) (s : ChangeSpec) (c : OpenClaim) : Bool := (c.mapsOut == P.mapsAmong fn.resultTypes.toList)
def q16 (P : Program) (f : FuncId) (fn : Func) (s : ChangeSpec) (c : OpenClaim) : Bool := (c.loops == (fn.params.toList ++ s.plain.varTypes P).any (P.loopsFrom ·))
def q17 (P : Program) (f : FuncId) (fn : Func) (s : ChangeSpec) (c : OpenClaim) : Bool := (c.wideKeys == (fn.params.toList ++ s.plain.varTypes P ++ fn.resultTypes.toList).any (P.wideKeysFrom ·))
def q18 (P : Program) (f : FuncId) (fn : Func) (s : ChangeSpec) (c : OpenClaim) : Bool := s.vars.all (P.varReadable ·)
def q19 (P : Program) (f : FuncId) (fn : Func) (s : ChangeSpec) (c : OpenClaim) : Bool := fn.resultTypes.all (fun t => P.readableRec t && decide (t < P.types.size))
def q20 (P : Program) (f : FuncId) (fn : Func) (s : ChangeSpec) (c : OpenClaim) : Bool := (c.ifacesOut == fn.resultTypes.toList.any (P.ifacesRec ·))
def q21 (P : Program) (f : FuncId) (fn : Func) (s : ChangeSpec) (c : OpenClaim) : Bool := (c.loopsOut == fn.resultTypes.toList.any (P.loopsFrom ·))
def q22 (P : Program) (f : FuncId) (fn : Func) (s : ChangeSpec) (c : OpenClaim) : Bool := (c.plainKeys == P.plainKeys)
def q23 (P : Program) (f : FuncId) (fn : Func) (s : ChangeSpec) (c : OpenClaim) : Bool := c.shortTexts.isNone
def q24 (P : Program) (f : FuncId) (fn : Func) (s : ChangeSpec) (c : OpenClaim) : Bool := P.stopsHeard
def q25 (P : Program) (f : FuncId) (fn : Func) (s : ChangeSpec) (c : OpenClaim) : Bool := P.mayEnter
def q26 (P : Program) (f : FuncId) (fn : Func) (s : ChangeSpec) (c : OpenClaim) : Bool := (c.lifted == P.liftsFinal)
def q27 (P : Program) (f : FuncId) (fn : Func) (s : ChangeSpec) (c : OpenClaim) : Bool := (P.make == some c.make)
def q28 (P : Program) (f : FuncId) (fn : Func) (s : ChangeSpec) (c : OpenClaim) : Bool := (c.kinds == (if c.domain.isEmpty then [] else fn.params.toList.map fun t => match P.underlying t with | some (.int k) => some k | _ => none))
def q29 (P : Program) (f : FuncId) (fn : Func) (s : ChangeSpec) (c : OpenClaim) : Bool := (c.pinned == c.pinnedBy)
def q30 (P : Program) (f : FuncId) (fn : Func) (s : ChangeSpec) (c : OpenClaim) : Bool := (c.veiled == (fn.params.toList ++ s.plain.varTypes P ++ fn.resultTypes.toList).any (P.veiledRec ·))
def q31 (P : Program) (f : FuncId) (fn : Func) (s : ChangeSpec) (c : OpenClaim) : Bool := c.veiledFits P fn.params.toList (fn.params.toList ++ s.plain.varTypes P ++ fn.resultTypes.toList)
theorem q0_ok : q0 Tryz.checked.prog 3 Tryz.f3 Rows.stepReckonsSpec Rows.stepReckonsRow = true := by kernel_rfl
theorem q1_ok : q1 Tryz.checked.prog 3 Tryz.f3 Rows.stepReckonsSpec Rows.stepReckonsRow = true := by kernel_rfl
theorem q2_ok : q2 Tryz.checked.prog 3 Tryz.f3 Rows.stepReckonsSpec Rows.stepReckonsRow = true := by kernel_rfl
theorem q3_ok : q3 Tryz.checked.prog 3 Tryz.f3 Rows.stepReckonsSpec Rows.stepReckonsRow = true := by kernel_rfl
theorem q4_ok : q4 Tryz.checked.prog 3 Tryz.f3 Rows.stepReckonsSpec Rows.stepReckonsRow = true := by kernel_rfl
theorem q5_ok : q5 Tryz.checked.prog 3 Tryz.f3 Rows.stepReckonsSpec Rows.stepReckonsRow = true := by kernel_rfl
theorem q6_ok : q6 Tryz.checked.prog 3 Tryz.f3 Rows.stepReckonsSpec Rows.stepReckonsRow = true := by kernel_rfl
theorem q7_ok : q7 Tryz.checked.prog 3 Tryz.f3 Rows.stepReckonsSpec Rows.stepReckonsRow = true := by kernel_rfl
theorem q8_ok : q8 Tryz.checked.prog 3 Tryz.f3 Rows.stepReckonsSpec Rows.stepReckonsRow = true := by kernel_rfl
theorem q9_ok : q9 Tryz.checked.prog 3 Tryz.f3 Rows.stepReckonsSpec Rows.stepReckonsRow = true := by kernel_rfl
theorem q10_ok : q10 Tryz.checked.prog 3 Tryz.f3 Rows.stepReckonsSpec Rows.stepReckonsRow = true := by kernel_rfl
theorem q11_ok : q11 Tryz.checked.prog 3 Tryz.f3 Rows.stepReckonsSpec Rows.stepReckonsRow = true := by kernel_rfl
theorem q12_ok : q12 Tryz.checked.prog 3 Tryz.f3 Rows.stepReckonsSpec Rows.stepReckonsRow = true := by kernel_rfl
theorem q13_ok : q13 Tryz.checked.prog 3 Tryz.f3 Rows.stepReckonsSpec Rows.stepReckonsRow = true := by kernel_rfl
theorem q14_ok : q14 Tryz.checked.prog 3 Tryz.f3 Rows.stepReckonsSpec Rows.stepReckonsRow = true := by kernel_rfl
theorem q15_ok : q15 Tryz.checked.prog 3 Tryz.f3 Rows.stepReckonsSpec Rows.stepReckonsRow = true := by kernel_rfl
theorem q16_ok : q16 Tryz.checked.prog 3 Tryz.f3 Rows.stepReckonsSpec Rows.stepReckonsRow = true := by kernel_rfl
theorem q17_ok : q17 Tryz.checked.prog 3 Tryz.f3 Rows.stepReckonsSpec Rows.stepReckonsRow = true := by kernel_rfl
theorem q18_ok : q18 Tryz.checked.prog 3 Tryz.f3 Rows.stepReckonsSpec Rows.stepReckonsRow = true := by kernel_rfl
theorem q19_ok : q19 Tryz.checked.prog 3 Tryz.f3 Rows.stepReckonsSpec Rows.stepReckonsRow = true := by kernel_rfl
theorem q20_ok : q20 Tryz.checked.prog 3 Tryz.f3 Rows.stepReckonsSpec Rows.stepReckonsRow = true := by kernel_rfl
theorem q21_ok : q21 Tryz.checked.prog 3 Tryz.f3 Rows.stepReckonsSpec Rows.stepReckonsRow = true := by kernel_rfl
theorem q22_ok : q22 Tryz.checked.prog 3 Tryz.f3 Rows.stepReckonsSpec Rows.stepReckonsRow = true := by kernel_rfl
theorem q23_ok : q23 Tryz.checked.prog 3 Tryz.f3 Rows.stepReckonsSpec Rows.stepReckonsRow = true := by kernel_rfl
theorem q24_ok : q24 Tryz.checked.prog 3 Tryz.f3 Rows.stepReckonsSpec Rows.stepReckonsRow = true := by kernel_rfl
theorem q25_ok : q25 Tryz.checked.prog 3 Tryz.f3 Rows.stepReckonsSpec Rows.stepReckonsRow = true := by kernel_rfl
theorem q26_ok : q26 Tryz.checked.prog 3 Tryz.f3 Rows.stepReckonsSpec Rows.stepReckonsRow = true := by kernel_rfl
theorem q27_ok : q27 Tryz.checked.prog 3 Tryz.f3 Rows.stepReckonsSpec Rows.stepReckonsRow = true := by kernel_rfl
theorem q28_ok : q28 Tryz.checked.prog 3 Tryz.f3 Rows.stepReckonsSpec Rows.stepReckonsRow = true := by kernel_rfl
theorem q29_ok : q29 Tryz.checked.prog 3 Tryz.f3 Rows.stepReckonsSpec Rows.stepReckonsRow = true := by kernel_rfl
theorem q30_ok : q30 Tryz.checked.prog 3 Tryz.f3 Rows.stepReckonsSpec Rows.stepReckonsRow = true := by kernel_rfl
theorem q31_ok : q31 Tryz.checked.prog 3 Tryz.f3 Rows.stepReckonsSpec Rows.stepReckonsRow = true := by kernel_rfl
theorem tt {a b : Bool} (h : a = true) (k : b = true) : (a && b) = true := by rw [h, k]; rfl
end Go.Proofs.YtkcelehlilppcaaGreat.stepReckons
