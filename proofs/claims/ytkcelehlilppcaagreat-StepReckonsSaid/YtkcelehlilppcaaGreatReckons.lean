/- Whatever three numbers come in, the program's Reckon and the document's tell the same, and what is asked beside it holds: StepReckons returns true. No condition. -/
import Derived.Test.YtkcelehlilppcaaGreatL19
import Derived.WalkKit
import Derived.ProofKit
import Derived.OpenShut
import Derived.ShutString
import Derived.ChangeOld
import Derived.Below
import Derived.SizedLaws
namespace Go.Proofs.YtkcelehlilppcaaGreat.stepReckons
open Go.ChangeShapes Go.WideShapes Go.ChangeAt Go.RowKit
set_option linter.unusedVariables false

theorem below_of_XT {w w' : World} {E' : EV} {M' : List DE} (h : XT ⟨w, ⟨fun _ => False, fun _ => False, fun _ => 0, fun _ => 0, fun _ => 0⟩, [], []⟩ E' M' w') : Below w.heap.size w w' :=
  ⟨h.os, h.tape, h.output, h.size, fun b hb => h.old b hb fun ⟨i, o, hM, _⟩ => by simp at hM⟩

theorem live_any (w : World) : Calls Tryz.prog 15 #[] w fun e w' => e = .returned (.bool true) ∧ Below w.heap.size w w' := by
  obtain ⟨M', h⟩ := krun
  refine (h.closed w).mono ?_
  rintro e w' ⟨v, E', rfl, hv, hX⟩
  cases hv with
  | pd hp => cases hp; exact ⟨rfl, below_of_XT hX⟩

/-- What both tell. -/
def Both (op a b : Int) : Prop := ∃ n t : Int, (∀ w, Calls Tryz.prog 13 #[.int .i64 op, .int .i64 a, .int .i64 b] w fun e w' => e = .returned (.tuple #[.int .i64 n, .int .i64 t]) ∧ w = w') ∧
  ∀ w, Calls Tryz.prog 14 #[.int .i64 op, .int .i64 a, .int .i64 b] w fun e w' => e = .returned (.tuple #[.int .i64 n, .int .i64 t]) ∧ w = w'

theorem truth_t (w : World) : Calls Tryz.prog 45 #[.bool true] w fun e w' => e = .returned (.int .i64 1) ∧ w = w' := by
  go_enter Tryz.func45, Tryz.ntmps45
  go_wp2
  go_ret
  exact ⟨rfl, rfl⟩
theorem truth_f (w : World) : Calls Tryz.prog 45 #[.bool false] w fun e w' => e = .returned (.int .i64 0) ∧ w = w' := by
  go_enter Tryz.func45, Tryz.ntmps45
  go_wp2
  go_ret
  exact ⟨rfl, rfl⟩

theorem b0 (a b : Int) : Both 0 a b := by
  refine ⟨wrap64 (a + b), 0, fun w => ?_, fun w => ?_⟩
  · go_enter Tryz.func13, Tryz.ntmps13
    go_wp2
    go_ret2
    exact ⟨rfl, rfl⟩
  · go_enter Tryz.func14, Tryz.ntmps14
    go_wp2
    go_ret2
    exact ⟨rfl, rfl⟩

theorem b1 (a b : Int) : Both 1 a b := by
  refine ⟨wrap64 (a - b), 0, fun w => ?_, fun w => ?_⟩
  · go_enter Tryz.func13, Tryz.ntmps13
    go_wp2
    go_ret2
    exact ⟨rfl, rfl⟩
  · go_enter Tryz.func14, Tryz.ntmps14
    go_wp2
    go_ret2
    exact ⟨rfl, rfl⟩

theorem b2 (a b : Int) : Both 2 a b := by
  refine ⟨wrap64 (a * b), 0, fun w => ?_, fun w => ?_⟩
  · go_enter Tryz.func13, Tryz.ntmps13
    go_wp2
    go_ret2
    exact ⟨rfl, rfl⟩
  · go_enter Tryz.func14, Tryz.ntmps14
    go_wp2
    go_ret2
    exact ⟨rfl, rfl⟩

theorem b3z (a b : Int) : Both 3 a 0 := by
  refine ⟨0, 1, fun w => ?_, fun w => ?_⟩
  · go_enter Tryz.func13, Tryz.ntmps13
    go_wp2
    go_ret2
    exact ⟨rfl, rfl⟩
  · go_enter Tryz.func14, Tryz.ntmps14
    go_wp2
    go_ret2
    exact ⟨rfl, rfl⟩

theorem b3n (a b : Int) (hb : (b == 0) = false) (hb0 : b ≠ 0) (hm : (b == -1) = false) : Both 3 a b := by
  refine ⟨wrap64 (a.tdiv b), 0, fun w => ?_, fun w => ?_⟩
  · go_enter Tryz.func13, Tryz.ntmps13
    go_wp2
    go_ret2
    exact ⟨rfl, rfl⟩
  · go_enter Tryz.func14, Tryz.ntmps14
    go_wp2
    go_ret2
    exact ⟨rfl, rfl⟩

theorem b3m (a b : Int) : Both 3 a (-1) := by
  refine ⟨wrap64 (-a), 0, fun w => ?_, fun w => ?_⟩
  · have hd : a.tdiv (-1) = -a := by simp
    have hr : a.tmod (-1) = 0 := by simp
    go_enter Tryz.func13, Tryz.ntmps13
    go_wp2
    go_ret2
    exact ⟨rfl, rfl⟩
  · go_enter Tryz.func14, Tryz.ntmps14
    go_wp2
    go_ret2
    exact ⟨rfl, rfl⟩

theorem b4z (a b : Int) : Both 4 a 0 := by
  refine ⟨0, 1, fun w => ?_, fun w => ?_⟩
  · go_enter Tryz.func13, Tryz.ntmps13
    go_wp2
    go_ret2
    exact ⟨rfl, rfl⟩
  · go_enter Tryz.func14, Tryz.ntmps14
    go_wp2
    go_ret2
    exact ⟨rfl, rfl⟩

theorem b4n (a b : Int) (hb : (b == 0) = false) (hb0 : b ≠ 0) (hm : (b == -1) = false) : Both 4 a b := by
  refine ⟨a.tmod b, 0, fun w => ?_, fun w => ?_⟩
  · go_enter Tryz.func13, Tryz.ntmps13
    go_wp2
    go_ret2
    exact ⟨rfl, rfl⟩
  · go_enter Tryz.func14, Tryz.ntmps14
    go_wp2
    go_ret2
    exact ⟨rfl, rfl⟩

theorem b4m (a b : Int) : Both 4 a (-1) := by
  refine ⟨0, 0, fun w => ?_, fun w => ?_⟩
  · have hd : a.tdiv (-1) = -a := by simp
    have hr : a.tmod (-1) = 0 := by simp
    go_enter Tryz.func13, Tryz.ntmps13
    go_wp2
    go_ret2
    exact ⟨rfl, rfl⟩
  · go_enter Tryz.func14, Tryz.ntmps14
    go_wp2
    go_ret2
    exact ⟨rfl, rfl⟩

theorem b5 (a b : Int) : Both 5 a b := by
  refine ⟨bits BinOp.and IntKind.i64 a b, 0, fun w => ?_, fun w => ?_⟩
  · go_enter Tryz.func13, Tryz.ntmps13
    go_wp2
    go_ret2
    exact ⟨rfl, rfl⟩
  · go_enter Tryz.func14, Tryz.ntmps14
    go_wp2
    go_ret2
    exact ⟨rfl, rfl⟩

theorem b6 (a b : Int) : Both 6 a b := by
  refine ⟨bits BinOp.or IntKind.i64 a b, 0, fun w => ?_, fun w => ?_⟩
  · go_enter Tryz.func13, Tryz.ntmps13
    go_wp2
    go_ret2
    exact ⟨rfl, rfl⟩
  · go_enter Tryz.func14, Tryz.ntmps14
    go_wp2
    go_ret2
    exact ⟨rfl, rfl⟩

theorem b7 (a b : Int) : Both 7 a b := by
  refine ⟨bits BinOp.xor IntKind.i64 a b, 0, fun w => ?_, fun w => ?_⟩
  · go_enter Tryz.func13, Tryz.ntmps13
    go_wp2
    go_ret2
    exact ⟨rfl, rfl⟩
  · go_enter Tryz.func14, Tryz.ntmps14
    go_wp2
    go_ret2
    exact ⟨rfl, rfl⟩

theorem b8t (a b : Int) (h : decide (a < b) = true) : Both 8 a b := by
  refine ⟨1, 0, fun w => ?_, fun w => ?_⟩
  · go_enter Tryz.func13, Tryz.ntmps13
    go_wp2_with (go_at_call 45; refine (truth_t _).mono ?_; rintro e w' ⟨rfl, rfl⟩)
    go_ret2
    exact ⟨rfl, rfl⟩
  · go_enter Tryz.func14, Tryz.ntmps14
    go_wp2
    go_ret2
    exact ⟨rfl, rfl⟩

theorem b9t (a b : Int) (h : (a == b) = true) : Both 9 a b := by
  refine ⟨1, 0, fun w => ?_, fun w => ?_⟩
  · go_enter Tryz.func13, Tryz.ntmps13
    go_wp2_with (go_at_call 45; refine (truth_t _).mono ?_; rintro e w' ⟨rfl, rfl⟩)
    go_ret2
    exact ⟨rfl, rfl⟩
  · go_enter Tryz.func14, Tryz.ntmps14
    go_wp2
    go_ret2
    exact ⟨rfl, rfl⟩

theorem b8f (a b : Int) (h : decide (a < b) = false) : Both 8 a b := by
  refine ⟨0, 0, fun w => ?_, fun w => ?_⟩
  · go_enter Tryz.func13, Tryz.ntmps13
    go_wp2_with (go_at_call 45; refine (truth_f _).mono ?_; rintro e w' ⟨rfl, rfl⟩)
    go_ret2
    exact ⟨rfl, rfl⟩
  · go_enter Tryz.func14, Tryz.ntmps14
    go_wp2
    go_ret2
    exact ⟨rfl, rfl⟩

theorem b9f (a b : Int) (h : (a == b) = false) : Both 9 a b := by
  refine ⟨0, 0, fun w => ?_, fun w => ?_⟩
  · go_enter Tryz.func13, Tryz.ntmps13
    go_wp2_with (go_at_call 45; refine (truth_f _).mono ?_; rintro e w' ⟨rfl, rfl⟩)
    go_ret2
    exact ⟨rfl, rfl⟩
  · go_enter Tryz.func14, Tryz.ntmps14
    go_wp2
    go_ret2
    exact ⟨rfl, rfl⟩

theorem bx (a b : Int) (op : Int) (h0 : (op == 0) = false) (h1 : (op == 1) = false) (h2 : (op == 2) = false) (h3 : (op == 3) = false) (h4 : (op == 4) = false) (h5 : (op == 5) = false) (h6 : (op == 6) = false) (h7 : (op == 7) = false) (h8 : (op == 8) = false) (h9 : (op == 9) = false) : Both op a b := by
  refine ⟨0, 9, fun w => ?_, fun w => ?_⟩
  · go_enter Tryz.func13, Tryz.ntmps13
    go_wp2
    go_ret2
    exact ⟨rfl, rfl⟩
  · go_enter Tryz.func14, Tryz.ntmps14
    go_wp2
    go_ret2
    exact ⟨rfl, rfl⟩

theorem both (op a b : Int) : Both op a b := by
  by_cases h0 : op = 0
  · subst h0; exact b0 a b
  by_cases h1 : op = 1
  · subst h1; exact b1 a b
  by_cases h2 : op = 2
  · subst h2; exact b2 a b
  by_cases h3 : op = 3
  · subst h3
    by_cases hb : b = 0
    · subst hb; exact b3z a 0
    by_cases hm : b = -1
    · subst hm; exact b3m a 0
    exact b3n a b (by simpa using hb) hb (by simpa using hm)
  by_cases h4 : op = 4
  · subst h4
    by_cases hb : b = 0
    · subst hb; exact b4z a 0
    by_cases hm : b = -1
    · subst hm; exact b4m a 0
    exact b4n a b (by simpa using hb) hb (by simpa using hm)
  by_cases h5 : op = 5
  · subst h5; exact b5 a b
  by_cases h6 : op = 6
  · subst h6; exact b6 a b
  by_cases h7 : op = 7
  · subst h7; exact b7 a b
  by_cases h8 : op = 8
  · subst h8
    cases h : decide (a < b) with
    | true => exact b8t a b h
    | false => exact b8f a b h
  by_cases h9 : op = 9
  · subst h9
    cases h : (a == b) with
    | true => exact b9t a b h
    | false => exact b9f a b h
  exact bx a b op (by simpa using h0) (by simpa using h1) (by simpa using h2) (by simpa using h3) (by simpa using h4) (by simpa using h5) (by simpa using h6) (by simpa using h7) (by simpa using h8) (by simpa using h9)

theorem walk (op a b : Int) (w : World) : Calls Tryz.prog 3 #[.int .i64 op, .int .i64 a, .int .i64 b] w fun e w' => e = .returned (.bool true) ∧ Below w.heap.size w w' := by
  obtain ⟨n, t, c13, c14⟩ := both op a b
  go_enter Tryz.func3, Tryz.ntmps3
  go_wp2_with (first | (go_at_call 13; refine (c13 _).mono ?_; rintro e w' ⟨rfl, rfl⟩) | (go_at_call 14; refine (c14 _).mono ?_; rintro e w' ⟨rfl, rfl⟩) | (go_at_call 15; refine (live_any _).mono ?_; rintro e w' ⟨rfl, hb⟩))
  go_ret
  exact ⟨rfl, hb⟩

end Go.Proofs.YtkcelehlilppcaaGreat.stepReckons
