/- What operations that only compute or read come to, in the abstract interpreter. No condition. -/
import Derived.Test.YtkcelehlilppcaaGreatD1
import Derived.Laws.Strings
import Derived.ChangeKeysEq
set_option linter.unusedVariables false
set_option linter.unusedSimpArgs false
namespace Go.Proofs.YtkcelehlilppcaaGreat
open Go.RowKit

/-- What is so if something holds. -/
def gd {α : Type} (c : Prop) [Decidable c] (v : α) : Option α := if c then some v else none
theorem gd_some {α : Type} {c : Prop} [Decidable c] {v u : α} (h : gd c v = some u) : c ∧ v = u := by
  unfold gd at h
  split at h
  · rename_i hc; injection h with h; exact ⟨hc, h⟩
  · cases h
@[simp] theorem gd_true {α : Type} (v : α) : gd True v = some v := rfl
theorem gd_pos {α : Type} {c : Prop} [Decidable c] {v : α} (h : c) : gd c v = some v := if_pos h

def tySlice (P : Program) (t : TypeId) : Bool := match P.underlying t with | some (.slice _) => true | _ => false
def tyPtr (P : Program) (t : TypeId) : Bool := match P.underlying t with | some (.pointer _) => true | _ => false
def tyMap (P : Program) (t : TypeId) : Bool := match P.underlying t with | some (.map _ _) => true | _ => false
def tyIfc (P : Program) (t : TypeId) : Bool := match P.underlying t with | some (.interface _) => true | _ => false
def tyBool (P : Program) (t : TypeId) : Bool := match P.underlying t with | some .bool => true | _ => false
theorem tySlice_ex {P : Program} {t : TypeId} (h : tySlice P t = true) : ∃ e, P.underlying t = some (.slice e) := by unfold tySlice at h; split at h <;> first | exact ⟨_, by assumption⟩ | cases h
theorem tyPtr_ex {P : Program} {t : TypeId} (h : tyPtr P t = true) : ∃ e, P.underlying t = some (.pointer e) := by unfold tyPtr at h; split at h <;> first | exact ⟨_, by assumption⟩ | cases h
theorem tyMap_ex {P : Program} {t : TypeId} (h : tyMap P t = true) : ∃ a b, P.underlying t = some (.map a b) := by unfold tyMap at h; split at h <;> first | exact ⟨_, _, by assumption⟩ | cases h
theorem tyIfc_ex {P : Program} {t : TypeId} (h : tyIfc P t = true) : ∃ a, P.underlying t = some (.interface a) := by unfold tyIfc at h; split at h <;> first | exact ⟨_, by assumption⟩ | cases h
theorem tyBool_eq {P : Program} {t : TypeId} (h : tyBool P t = true) : P.underlying t = some .bool := by unfold tyBool at h; split at h <;> first | assumption | cases h

def cvS : Value → Option PD
  | .bool b => some (.bool b)
  | .int k n => some (.int k n)
  | .string s => some (.str s.data.toList)
  | .slice none 0 0 => some .nl
  | _ => none

def cvc : Value → DV
  | .pointer none => .np
  | .map none => .nm
  | .nilFunc => .nf
  | .nilIface => .ni
  | v => match cvS v with | some p => .pd p | none => .any

def cv : Value → DV
  | .pointer none => .np
  | .map none => .nm
  | .nilFunc => .nf
  | .nilIface => .ni
  | .agg cs => .agg (cs.toList.map cvc)
  | v => cvc v

theorem cvS_sound {S : Nat → Prop} {w : World} {v : Value} {p : PD} (h : cvS v = some p) : PR S w p v := by
  unfold cvS at h
  split at h <;> first | (injection h with h; subst h; constructor) | cases h

theorem cvc_sound (E : EV) (w : World) (v : Value) : VR E w (cvc v) v := by
  unfold cvc
  split
  · exact .np
  · exact .nm
  · exact .nf
  · exact .ni
  · split
    · rename_i p h; exact .pd (cvS_sound h)
    · exact .any _

theorem cv_sound (E : EV) (w : World) (v : Value) : VR E w (cv v) v := by
  unfold cv
  split
  · exact .np
  · exact .nm
  · exact .nf
  · exact .ni
  · rename_i cs
    refine .agg (by simp) fun i x u h1 h2 => ?_
    simp only [List.getElem?_map, Array.getElem?_toList, h2, Option.map_some, Option.some.injEq] at h1
    subst h1
    exact cvc_sound E w u
  · exact cvc_sound E w _

def ev (t : List DV) : Operand → DV
  | .tmp i => t.getD i .un
  | .const v => cv v
  | .global _ => .any
  | .func f => .fn (.func f) [] []

theorem ev_sound {E : EV} {w : World} {t : List DV} {a : Act} (h : LR E w t a.tmps) (x : Operand) : VR E w (ev t x) (a.eval x) := by
  cases x with
  | tmp i =>
    simp only [ev, Act.eval, List.getD_eq_getElem?_getD, Array.getD_eq_getD_getElem?]
    by_cases hi : i < t.length
    · have h1 : t[i]? = some t[i] := List.getElem?_eq_getElem hi
      have h2 : a.tmps[i]? = some (a.tmps[i]'(by rw [h.1]; exact hi)) := Array.getElem?_eq_getElem _
      rw [h1, h2]
      exact h.2 i _ _ h1 h2
    · have hi' : t.length ≤ i := Nat.le_of_not_lt hi
      rw [List.getElem?_eq_none hi', Array.getElem?_eq_none (by rw [h.1]; exact hi')]
      exact .un
  | const v => exact cv_sound E w v
  | global g => exact .any _
  | func f => exact .fn (vs := #[]) (us := #[]) rfl rfl (fun i x v h _ => by simp at h) (fun i x v h _ => by simp at h)

/-! ### Types -/
def aggD : TypeDesc → Bool
  | .struct _ | .array _ _ => true
  | _ => false

theorem run_und {P : Program} {t : TypeId} {d : TypeDesc} (h : P.underlying t = some d) (w : World) : (underlying t).run P w = .ok d w := run_underlying h w
theorem run_size {P : Program} {t : TypeId} {i : TypeInfo} (h : P.info? t = some i) (w : World) : (sizeOf t).run P w = .ok i.size w := by
  simp [sizeOf, typeInfo, h]
theorem run_agg {P : Program} {t : TypeId} {d : TypeDesc} (h : P.underlying t = some d) (w : World) : (isAgg t).run P w = .ok (aggD d) w := by
  simp only [isAgg, Sem.run_bind, run_und h, Result.andThen_ok]
  cases d <;> rfl

/-! ### Numbers and texts -/
def pint (op : BinOp) (k : IntKind) (a b : Int) : PD :=
  match op with
  | .add => .int k (k.wrap (a + b))
  | .sub => .int k (k.wrap (a - b))
  | .mul => .int k (k.wrap (a * b))
  | .quo => .int k (k.wrap (a.tdiv b))
  | .rem => .int k (a.tmod b)
  | .and => .int k (k.wrap (BitVec.ofInt k.bits a &&& BitVec.ofInt k.bits b).toNat)
  | .or => .int k (k.wrap (BitVec.ofInt k.bits a ||| BitVec.ofInt k.bits b).toNat)
  | .xor => .int k (k.wrap (BitVec.ofInt k.bits a ^^^ BitVec.ofInt k.bits b).toNat)
  | .andNot => .int k (k.wrap (BitVec.ofInt k.bits a &&& ~~~ BitVec.ofInt k.bits b).toNat)
  | .shl => .int k (k.wrap (a * 2 ^ (min b.toNat k.bits)))
  | .shr => .int k (a.fdiv (2 ^ (min b.toNat k.bits)))
  | .eql => .bool (a == b)
  | .neq => .bool (a != b)
  | .lss => .bool (decide (a < b))
  | .leq => .bool (decide (a ≤ b))
  | .gtr => .bool (decide (b < a))
  | .geq => .bool (decide (b ≤ a))

def pintOk (op : BinOp) (k k' : IntKind) (b : Int) : Bool :=
  match op with
  | .shl | .shr => decide (0 ≤ b)
  | .quo | .rem => decide (k = k' ∧ b ≠ 0)
  | _ => decide (k = k')

def pstr (op : BinOp) (a b : List UInt8) : PD :=
  match op with
  | .add => .str (a ++ b)
  | .eql => .bool (a == b)
  | .neq => .bool (!(a == b))
  | .lss => .bool (Op.bytesLess a b)
  | .leq => .bool (Op.bytesLess a b || a == b)
  | .gtr => .bool (!(Op.bytesLess a b || a == b))
  | .geq => .bool (!Op.bytesLess a b)
  | _ => .nl

def pstrOk (op : BinOp) (a b : List UInt8) : Bool :=
  match op with
  | .add => decide (a.length + b.length ≤ 9223372036854775807)
  | .eql | .neq | .lss | .leq | .gtr | .geq => true
  | _ => false

def eqlOp (op : BinOp) (b : Bool) : PD := if op = .eql then .bool b else .bool (!b)

def pbin (op : BinOp) : PD → PD → PD
  | .int k a, .int _ b => pint op k a b
  | .str a, .str b => pstr op a b
  | .bool a, .bool b => eqlOp op (a == b)
  | .nl, .nl => eqlOp op true
  | .sl .., .nl | .nl, .sl .. => eqlOp op false
  | _, _ => .nl

def isEql (op : BinOp) : Bool := match op with | .eql | .neq => true | _ => false
theorem isEql_or {op : BinOp} (h : isEql op = true) : op = .eql ∨ op = .neq := by cases op <;> simp [isEql] at h ⊢

def pbinOk (P : Program) (op : BinOp) (t : TypeId) : PD → PD → Bool
  | .int k _, .int k' b => pintOk op k k' b
  | .str a, .str b => pstrOk op a b
  | .bool _, .bool _ => isEql op && tyBool P t
  | .nl, .nl | .sl .., .nl | .nl, .sl .. => isEql op && tySlice P t
  | _, _ => false

theorem toList_mk (s : List UInt8) : (⟨⟨s⟩⟩ : ByteArray).toList = s := by
  rw [ByteArray.toList_eq]

end Go.Proofs.YtkcelehlilppcaaGreat
