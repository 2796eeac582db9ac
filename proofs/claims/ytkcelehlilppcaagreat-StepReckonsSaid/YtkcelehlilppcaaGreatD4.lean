/- Comparisons, arithmetic, conversions, and all operations that only compute or read, together. No condition. -/
import Derived.Test.YtkcelehlilppcaaGreatD3
import Derived.Lib.SmallJoins
set_option linter.unusedVariables false
set_option linter.unusedSimpArgs false
namespace Go.Proofs.YtkcelehlilppcaaGreat
open Go.RowKit

def PD.k : PD → IntKind | .int k _ => k | _ => .i64

def partD (i : TypeInfo) (d : TypeDesc) (cs : List DV) (off : Nat) : DV := if aggD d then .agg ((cs.drop off).take i.size) else cs.getD off .any
def partOk (i : TypeInfo) (d : TypeDesc) (cs : List DV) (off : Nat) : Bool := if aggD d then decide (off + i.size ≤ cs.length) else decide (off < cs.length)

theorem partD_sound {P : Program} {E : EV} {w : World} {t : TypeId} {i : TypeInfo} {d : TypeDesc} (hi : P.info? t = some i) (hd : P.underlying t = some d) {cs : List DV} {vs : Array Value}
    (h : LR E w cs vs) (off : Nat) (ho : partOk i d cs off = true) : ∃ r, (part t vs off).run P w = .ok r w ∧ VR E w (partD i d cs off) r := by
  have hp := part_sound (E := E) (w := w) hi hd h off
  unfold partOk at ho
  unfold partD
  split at ho <;> rename_i hg <;> replace ho := of_decide_eq_true ho
  · simp only [hg, if_true]; exact hp.1 hg ho
  · simp only [hg, if_false]; exact hp.2 (by simpa using hg) ho

def eqF (P : Program) (Q : TypeId → DV → DV → Option Bool) (cs ds : List DV) : List Field → Option Bool
  | [] => some true
  | f :: fs =>
    if f.name = "_" then none else
    match P.info? f.type, P.underlying f.type with
    | some i, some d =>
      match Q f.type (partD i d cs f.offset) (partD i d ds f.offset), eqF P Q cs ds fs with
      | some b1, some b2 => gd (partOk i d cs f.offset = true ∧ partOk i d ds f.offset = true) (b1 && b2)
      | _, _ => none
    | _, _ => none

def eqD (P : Program) : Nat → TypeId → DV → DV → Option Bool
  | 0, _, _, _ => none
  | n + 1, t, x, y =>
    match P.underlying t with
    | some .string => match x, y with | .pd p, .pd q => gd (p.isT ∧ q.isT) (p.s == q.s) | _, _ => none
    | some (.int _) => match x, y with | .pd p, .pd q => gd (p.isI ∧ q.isI ∧ p.k = q.k) (p.i == q.i) | _, _ => none
    | some .bool => match x, y with | .pd p, .pd q => gd (p.isB ∧ q.isB) (p.b == q.b) | _, _ => none
    | some (.struct fs) =>
      match x, y with
      | .agg cs, .agg ds => match eqF P (eqD P n) cs ds fs.toList with | some b => gd (P.stoodInHeld t = false) b | none => none
      | _, _ => none
    | _ => none

theorem eqF_sound {P : Program} {E : EV} {w : World} (n D : Nat)
    (ih : ∀ t x y b u z, eqD P n t x y = some b → VR E w x u → VR E w y z → (Op.equalIn D t u z).run P w = .ok b w)
    {cs ds : List DV} {xs ys : Array Value} (hx : LR E w cs xs) (hy : LR E w ds ys) :
    ∀ (fs : List Field) (b : Bool), eqF P (eqD P n) cs ds fs = some b → (Op.eqFields D xs ys fs).run P w = .ok b w := by
  intro fs
  induction fs with
  | nil => intro b h; simp only [eqF, Option.some.injEq] at h; rw [← h]; rfl
  | cons f fs ihf =>
    intro b h
    unfold eqF at h
    split at h
    · cases h
    · rename_i hne
      split at h
      · rename_i i d hi hd
        split at h
        · rename_i b1 b2 h1 h2
          obtain ⟨hc, h4⟩ := gd_some h; subst h4
          obtain ⟨ho1, ho2⟩ := hc
          obtain ⟨r1, hr1, hv1⟩ := partD_sound hi hd hx f.offset ho1
          obtain ⟨r2, hr2, hv2⟩ := partD_sound hi hd hy f.offset ho2
          have he := ih _ _ _ _ _ _ h1 hv1 hv2
          have hf := ihf _ h2
          simp only [Op.eqFields, ne_eq, hne, not_false_eq_true, if_true, Sem.run_bind, hr1, hr2, he, Result.andThen_ok]
          cases b1
          · simp
          · simpa using hf
        · cases h
      · cases h

theorem eqD_sound {P : Program} {E : EV} {w : World} : ∀ (n D : Nat), n ≤ D → ∀ (t : TypeId) (x y : DV) (b : Bool) (u z : Value),
    eqD P n t x y = some b → VR E w x u → VR E w y z → (Op.equalIn D t u z).run P w = .ok b w := by
  intro n
  induction n with
  | zero => intro D hD t x y b u z h; simp [eqD] at h
  | succ n ih =>
    intro D hD t x y b u z h hx hy
    obtain ⟨D, rfl⟩ : ∃ m, D = m + 1 := ⟨D - 1, by omega⟩
    unfold eqD at h
    split at h
    · rename_i ht
      split at h
      · obtain ⟨hc, h2⟩ := gd_some h; subst h2
        cases hx with
        | pd hp => cases hy with
          | pd hq =>
            obtain ⟨hc1, hc2⟩ := hc
            cases hp <;> simp only [PD.isT, Bool.false_eq_true] at hc1
            cases hq <;> simp only [PD.isT, Bool.false_eq_true] at hc2
            rw [run_equalIn_string w D t _ _ ht]
            simp only [toList_mk, PD.s]
      · cases h
    · rename_i k ht
      split at h
      · obtain ⟨hc, h2⟩ := gd_some h; subst h2
        cases hx with
        | pd hp => cases hy with
          | pd hq =>
            obtain ⟨hc1, hc2, hc3⟩ := hc
            cases hp <;> simp only [PD.isI, Bool.false_eq_true] at hc1
            cases hq <;> simp only [PD.isI, Bool.false_eq_true] at hc2
            simp only [PD.k] at hc3
            subst hc3
            rw [run_equalIn_int w D t _ _ _ _ ht]
            rfl
      · cases h
    · rename_i ht
      split at h
      · obtain ⟨hc, h2⟩ := gd_some h; subst h2
        cases hx with
        | pd hp => cases hy with
          | pd hq =>
            obtain ⟨hc1, hc2⟩ := hc
            cases hp <;> simp only [PD.isB, Bool.false_eq_true] at hc1
            cases hq <;> simp only [PD.isB, Bool.false_eq_true] at hc2
            rw [run_equalIn_bool' w D t _ _ ht]
            rfl
      · cases h
    · rename_i fs ht
      split at h
      · split at h
        · rename_i b' hf
          obtain ⟨hc, h2⟩ := gd_some h; subst h2
          cases hx with
          | agg h1 h2 => cases hy with
            | agg h3 h4 =>
              have hfo : P.fieldsOf t = fs := by simp [Program.fieldsOf, ht]
              rw [run_equalIn_agg w D t _ _ (by rw [hfo]; exact ht) hc, hfo]
              exact eqF_sound n D (fun t x y b u z => ih D (by omega) t x y b u z) ⟨h1, h2⟩ ⟨h3, h4⟩ _ _ hf
        · cases h
      · cases h
    · cases h

/-! ### Two operands -/
def isPtr : DV → Bool | .ptr .. | .ra .. | .sa .. => true | _ => false

def tyIf0 (P : Program) (t : TypeId) : Bool := match P.underlying t with | some (.interface ms) => ms.isEmpty | _ => false
theorem tyIf0_ex {P : Program} {t : TypeId} (h : tyIf0 P t = true) : P.underlying t = some (.interface #[]) := by
  unfold tyIf0 at h
  split at h
  · rename_i ms hm
    rw [hm, Array.isEmpty_iff.1 h]
  · cases h

def boD (P : Program) (op : BinOp) (t : TypeId) (x y : DV) : Option DV :=
  match x, y with
  | .pd p, .pd q => gd (pbinOk P op t p q) (.pd (pbin op p q))
  | .agg cs, .agg ds =>
    match eqD P 8 t (.agg cs) (.agg ds) with
    | some b => gd (isEql op ∧ P.eqGuardType P.depth t = false) (.pd (eqlOp op b))
    | none => none
  | .np, .np => gd (isEql op ∧ tyPtr P t) (.pd (eqlOp op true))
  | .np, z => if isPtr z then gd (isEql op ∧ tyPtr P t) (.pd (eqlOp op false)) else none
  | z, .np => if isPtr z then gd (isEql op ∧ tyPtr P t) (.pd (eqlOp op false)) else none
  | .nm, .nm => gd (isEql op ∧ tyMap P t) (.pd (eqlOp op true))
  | .mp _, .nm => gd (isEql op ∧ tyMap P t) (.pd (eqlOp op false))
  | .nm, .mp _ => gd (isEql op ∧ tyMap P t) (.pd (eqlOp op false))
  | .own _, .pd p => gd (isEql op ∧ p.isN ∧ tySlice P t) (.pd (eqlOp op false))
  | .pd p, .own _ => gd (isEql op ∧ p.isN ∧ tySlice P t) (.pd (eqlOp op false))
  | .em, .pd p => gd (isEql op ∧ p.isN ∧ tySlice P t) (.pd (eqlOp op false))
  | .pd p, .em => gd (isEql op ∧ p.isN ∧ tySlice P t) (.pd (eqlOp op false))
  | .ifc _ _, .ni => gd (isEql op ∧ tyIfc P t) (.pd (eqlOp op false))
  | .ni, .ifc _ _ => gd (isEql op ∧ tyIfc P t) (.pd (eqlOp op false))
  | .ni, .ni => gd (isEql op ∧ tyIf0 P t) (.pd (eqlOp op true))
  | _, _ => none

theorem bo_eql {P : Program} {E : EV} {w : World} {op : BinOp} {t : TypeId} (xo yo : Operand) (a b : Value) (r : Bool) (hop : isEql op = true)
    (hg : (eqGuard op t xo yo a b).run P w = .ok () w) (he : (Op.equal t a b).run P w = .ok r w) (hb : ∀ o, isEql o = true → binOp o t a b = if o = .eql then (do pure (.bool (← Op.equal t a b))) else (do pure (.bool (!(← Op.equal t a b))))) :
    ∃ z, ((do eqGuard op t xo yo a b; binOp op t a b : Sem Value)).run P w = .ok z w ∧ VR E w (.pd (eqlOp op r)) z := by
  rcases isEql_or hop with rfl | rfl
  · refine ⟨.bool r, ?_, .pd (.bool _)⟩
    rw [Sem.run_bind, hg, Result.andThen_ok, hb _ rfl]
    simp [he]
  · refine ⟨.bool (!r), ?_, .pd (.bool _)⟩
    rw [Sem.run_bind, hg, Result.andThen_ok, hb _ rfl]
    simp [he]

/-! Comparisons with nothing. -/
theorem eq_of {P : Program} {w : World} {t : TypeId} {a b : Value} {r : Bool} (h : ∀ d, (Op.equalIn (d + 1) t a b).run P w = .ok r w) : (Op.equal t a b).run P w = .ok r w := h 9999

theorem equal_ptr {P : Program} {w : World} {t e : TypeId} (ht : P.underlying t = some (.pointer e)) (a b : Option Addr) (h : a = none ∨ b = none) :
    (Op.equal t (.pointer a) (.pointer b)).run P w = .ok (a.isNone && b.isNone) w := by
  refine eq_of fun d => ?_
  cases a <;> cases b <;> simp [Op.equalIn, run_und ht] at h ⊢

theorem equal_map {P : Program} {w : World} {t e f : TypeId} (ht : P.underlying t = some (.map e f)) (a b : Option Nat) (h : a = none ∨ b = none) :
    (Op.equal t (.map a) (.map b)).run P w = .ok (a.isNone && b.isNone) w := by
  refine eq_of fun d => ?_
  cases a <;> cases b <;> simp [Op.equalIn, run_und ht] at h ⊢

theorem equal_slice {P : Program} {w : World} {t e : TypeId} (ht : P.underlying t = some (.slice e)) (a b : Option Addr) (n m c c' : Nat) (h : a = none ∨ b = none) :
    (Op.equal t (.slice a n c) (.slice b m c')).run P w = .ok (a.isNone && b.isNone) w := by
  refine eq_of fun d => ?_
  cases a <;> cases b <;> simp [Op.equalIn, run_und ht] at h ⊢

theorem equal_if1 {P : Program} {w : World} {t : TypeId} {ms : Array (String × TypeId)} (ht : P.underlying t = some (.interface ms)) (u : TypeId) (v : Value) :
    (Op.equal t .nilIface (.iface u v)).run P w = .ok false w := eq_of fun d => by simp [Op.equalIn, run_und ht]
theorem equal_if2 {P : Program} {w : World} {t : TypeId} {ms : Array (String × TypeId)} (ht : P.underlying t = some (.interface ms)) (u : TypeId) (v : Value) :
    (Op.equal t (.iface u v) .nilIface).run P w = .ok false w := eq_of fun d => by simp [Op.equalIn, run_und ht]

theorem equal_if0 {P : Program} {w : World} {t : TypeId} {ms : Array (String × TypeId)} (ht : P.underlying t = some (.interface ms)) :
    (Op.equal t .nilIface .nilIface).run P w = .ok true w := eq_of fun d => by simp [Op.equalIn, run_und ht]

theorem guard_if0 {P : Program} {w : World} {t : TypeId} (ht : P.underlying t = some (.interface #[])) (d : Nat) : (Op.eqGuardIn (d + 1) t .nilIface .nilIface).run P w = .ok false w := by
  simp [Op.eqGuardIn, run_und ht]
theorem guard_if {P : Program} {w : World} {op : BinOp} {t : TypeId} (ht : P.underlying t = some (.interface #[])) (xo yo : Operand) : (eqGuard op t xo yo .nilIface .nilIface).run P w = .ok () w := by
  have hg : (Op.eqGuardIn Op.maxDepth t .nilIface .nilIface).run P w = .ok false w := guard_if0 ht 9999
  have hi : ∀ c : Bool, ((if c = true then pure () else do
      if (← Op.eqGuardIn Op.maxDepth t .nilIface .nilIface) then unsupported (.noEntry "binop/eql: two nil values of an interface type with methods, neither of them the literal nil")) : Sem Unit).run P w = .ok () w := fun c => by
    cases c
    · simp [Sem.run_bind, hg]
    · rfl
  unfold eqGuard
  cases op <;> first | rfl | exact hi _

theorem int_sound {P : Program} {E : EV} {w : World} {op : BinOp} {t : TypeId} (xo yo : Operand) {k k' : IntKind} {a b : Int} (hc : pintOk op k k' b = true) :
    ∃ r, ((do eqGuard op t xo yo (.int k a) (.int k' b); binOp op t (.int k a) (.int k' b) : Sem Value)).run P w = .ok r w ∧ VR E w (.pd (pint op k a b)) r := by
  have hi : ∀ n, VR E w (.pd (.int k n)) (.int k n) := fun n => .pd (.int _ _)
  have hb : ∀ n, VR E w (.pd (.bool n)) (.bool n) := fun n => .pd (.bool _)
  cases op <;> simp only [pintOk, decide_eq_true_eq] at hc
  case add => subst hc; exact ⟨_, by simp [eqGuard, binOp, Op.intArith], hi _⟩
  case sub => subst hc; exact ⟨_, by simp [eqGuard, binOp, Op.intArith], hi _⟩
  case mul => subst hc; exact ⟨_, by simp [eqGuard, binOp, Op.intArith], hi _⟩
  case quo => obtain ⟨rfl, h0⟩ := hc; exact ⟨_, by simp [eqGuard, binOp, Op.intDiv, h0], hi _⟩
  case rem => obtain ⟨rfl, h0⟩ := hc; exact ⟨_, by simp [eqGuard, binOp, Op.intDiv, h0], hi _⟩
  case and => subst hc; exact ⟨_, by simp only [eqGuard, binOp, Op.intBits]; simp only [ne_eq, not_true_eq_false, if_false]; rfl, hi _⟩
  case or => subst hc; exact ⟨_, by simp only [eqGuard, binOp, Op.intBits]; simp only [ne_eq, not_true_eq_false, if_false]; rfl, hi _⟩
  case xor => subst hc; exact ⟨_, by simp only [eqGuard, binOp, Op.intBits]; simp only [ne_eq, not_true_eq_false, if_false]; rfl, hi _⟩
  case andNot => subst hc; exact ⟨_, by simp only [eqGuard, binOp, Op.intBits]; simp only [ne_eq, not_true_eq_false, if_false]; rfl, hi _⟩
  case shl => exact ⟨_, by simp [eqGuard, binOp, Op.shift, show ¬ b < 0 by omega], hi _⟩
  case shr => exact ⟨_, by simp [eqGuard, binOp, Op.shift, show ¬ b < 0 by omega], hi _⟩
  case eql => subst hc; exact ⟨.bool (a == b), by simp [eqGuard, binOp, Op.intCmp], hb _⟩
  case neq => subst hc; exact ⟨.bool (a != b), by simp [eqGuard, binOp, Op.intCmp], hb _⟩
  case lss => subst hc; exact ⟨.bool (decide (a < b)), by simp [eqGuard, binOp, Op.intCmp], hb _⟩
  case leq => subst hc; exact ⟨.bool (decide (a ≤ b)), by simp [eqGuard, binOp, Op.intCmp], hb _⟩
  case gtr => subst hc; exact ⟨.bool (decide (b < a)), by simp [eqGuard, binOp, Op.intCmp], hb _⟩
  case geq => subst hc; exact ⟨.bool (decide (b ≤ a)), by simp [eqGuard, binOp, Op.intCmp], hb _⟩

theorem str_sound {P : Program} {E : EV} {w : World} {op : BinOp} {t : TypeId} (xo yo : Operand) {a b : List UInt8} (hc : pstrOk op a b = true) :
    ∃ r, ((do eqGuard op t xo yo (.string ⟨⟨a⟩⟩) (.string ⟨⟨b⟩⟩); binOp op t (.string ⟨⟨a⟩⟩) (.string ⟨⟨b⟩⟩) : Sem Value)).run P w = .ok r w ∧ VR E w (.pd (pstr op a b)) r := by
  cases op <;> simp only [pstrOk, decide_eq_true_eq, Bool.false_eq_true] at hc
  case add =>
    refine ⟨.string ⟨⟨a ++ b⟩⟩, ?_, .pd (.str _)⟩
    have hsz : ¬ (((⟨⟨a⟩⟩ : ByteArray).size + (⟨⟨b⟩⟩ : ByteArray).size : Nat) : Int) > IntKind.i64.max := by
      show ¬ ((a.length + b.length : Nat) : Int) > 9223372036854775807
      omega
    have hap : (⟨⟨a⟩⟩ : ByteArray) ++ ⟨⟨b⟩⟩ = ⟨⟨a ++ b⟩⟩ := by
      have h := Joins.data_append ⟨⟨a⟩⟩ ⟨⟨b⟩⟩
      apply ByteArray.ext
      apply Array.toList_inj.1
      simp
    simp only [eqGuard, binOp, Op.stringOp, hsz, if_false, hap]
    rfl
  all_goals
    refine ⟨_, by simp only [eqGuard, binOp, Op.stringOp, toList_mk]; rfl, ?_⟩
    exact .pd (.bool _)

theorem pd_sound {P : Program} {E : EV} {w : World} {op : BinOp} {t : TypeId} {p q : PD} (xo yo : Operand) {u z : Value} (hc : pbinOk P op t p q = true)
    (hp : PR E.S w p u) (hq : PR E.S w q z) : ∃ r, ((do eqGuard op t xo yo u z; binOp op t u z : Sem Value)).run P w = .ok r w ∧ VR E w (.pd (pbin op p q)) r := by
  cases hp <;> cases hq <;> simp only [pbinOk, Bool.and_eq_true, Bool.false_eq_true] at hc
  · obtain ⟨hop, ht⟩ := hc
    replace ht := tyBool_eq ht
    refine bo_eql xo yo _ _ _ hop (by cases op <;> rfl) ?_ (by intro o ho; rcases isEql_or ho with rfl | rfl <;> rfl)
    rename_i a b; exact run_equalIn_bool' w 9999 t a b ht
  · exact int_sound xo yo hc
  · exact str_sound xo yo hc
  all_goals
    obtain ⟨hop, ht⟩ := hc
    obtain ⟨e, ht⟩ := tySlice_ex ht
    exact bo_eql xo yo _ _ _ hop (by cases op <;> rfl) (equal_slice ht _ _ _ _ _ _ (by simp)) (by intro o ho; rcases isEql_or ho with rfl | rfl <;> rfl)

theorem boD_sound {P : Program} {E : EV} {w : World} {op : BinOp} {t : TypeId} {x y v : DV} (xo yo : Operand) {u z : Value} (h : boD P op t x y = some v)
    (hx : VR E w x u) (hy : VR E w y z) : ∃ r, ((do eqGuard op t xo yo u z; binOp op t u z : Sem Value)).run P w = .ok r w ∧ VR E w v r := by
  unfold boD at h
  split at h
  · obtain ⟨hc, h2⟩ := gd_some h; subst h2
    cases hx with
    | pd hp => cases hy with
      | pd hq => exact pd_sound xo yo hc hp hq
  · split at h
    · rename_i b he
      obtain ⟨hc, h2⟩ := gd_some h; subst h2
      obtain ⟨hop, hg⟩ := hc
      have hr := eqD_sound 8 10000 (by omega) t _ _ _ _ _ he hx hy
      cases hx with
      | agg h1 h2 => cases hy with
        | agg h3 h4 => exact bo_eql xo yo _ _ _ hop (run_eqGuard_agg w op t xo yo _ _ hg) hr (by intro o ho; rcases isEql_or ho with rfl | rfl <;> rfl)
    · cases h
  · obtain ⟨hc, h2⟩ := gd_some h; subst h2
    obtain ⟨hop, ht⟩ := hc; obtain ⟨e, ht⟩ := tyPtr_ex ht
    cases hx; cases hy
    exact bo_eql xo yo _ _ _ hop (by cases op <;> rfl) (equal_ptr ht _ _ (by simp)) (by intro o ho; rcases isEql_or ho with rfl | rfl <;> rfl)
  · rename_i y' hne
    split at h
    · rename_i hp
      obtain ⟨hc, h2⟩ := gd_some h; subst h2
      obtain ⟨hop, ht⟩ := hc; obtain ⟨e, ht⟩ := tyPtr_ex ht
      cases hx
      cases hy <;> simp only [isPtr, Bool.false_eq_true] at hp
      all_goals exact bo_eql xo yo _ _ _ hop (by cases op <;> rfl) (equal_ptr ht _ _ (by simp)) (by intro o ho; rcases isEql_or ho with rfl | rfl <;> rfl)
    · cases h
  · rename_i x' hne
    split at h
    · rename_i hp
      obtain ⟨hc, h2⟩ := gd_some h; subst h2
      obtain ⟨hop, ht⟩ := hc; obtain ⟨e, ht⟩ := tyPtr_ex ht
      cases hy
      cases hx <;> simp only [isPtr, Bool.false_eq_true] at hp
      all_goals exact bo_eql xo yo _ _ _ hop (by cases op <;> rfl) (equal_ptr ht _ _ (by simp)) (by intro o ho; rcases isEql_or ho with rfl | rfl <;> rfl)
    · cases h
  · obtain ⟨hc, h2⟩ := gd_some h; subst h2
    obtain ⟨hop, ht⟩ := hc; obtain ⟨a, b, ht⟩ := tyMap_ex ht
    cases hx; cases hy
    exact bo_eql xo yo _ _ _ hop (by cases op <;> rfl) (equal_map ht _ _ (by simp)) (by intro o ho; rcases isEql_or ho with rfl | rfl <;> rfl)
  · obtain ⟨hc, h2⟩ := gd_some h; subst h2
    obtain ⟨hop, ht⟩ := hc; obtain ⟨a, b, ht⟩ := tyMap_ex ht
    cases hx; cases hy
    exact bo_eql xo yo _ _ _ hop (by cases op <;> rfl) (equal_map ht _ _ (by simp)) (by intro o ho; rcases isEql_or ho with rfl | rfl <;> rfl)
  · obtain ⟨hc, h2⟩ := gd_some h; subst h2
    obtain ⟨hop, ht⟩ := hc; obtain ⟨a, b, ht⟩ := tyMap_ex ht
    cases hx; cases hy
    exact bo_eql xo yo _ _ _ hop (by cases op <;> rfl) (equal_map ht _ _ (by simp)) (by intro o ho; rcases isEql_or ho with rfl | rfl <;> rfl)
  · obtain ⟨hc, h2⟩ := gd_some h; subst h2
    obtain ⟨hop, hn, ht⟩ := hc; obtain ⟨e, ht⟩ := tySlice_ex ht
    cases hx
    cases hy with
    | pd hp => cases hp <;> simp only [PD.isN, Bool.false_eq_true] at hn; exact bo_eql xo yo _ _ _ hop (by cases op <;> rfl) (equal_slice ht _ _ _ _ _ _ (by simp)) (by intro o ho; rcases isEql_or ho with rfl | rfl <;> rfl)
  · obtain ⟨hc, h2⟩ := gd_some h; subst h2
    obtain ⟨hop, hn, ht⟩ := hc; obtain ⟨e, ht⟩ := tySlice_ex ht
    cases hy
    cases hx with
    | pd hp => cases hp <;> simp only [PD.isN, Bool.false_eq_true] at hn; exact bo_eql xo yo _ _ _ hop (by cases op <;> rfl) (equal_slice ht _ _ _ _ _ _ (by simp)) (by intro o ho; rcases isEql_or ho with rfl | rfl <;> rfl)
  · obtain ⟨hc, h2⟩ := gd_some h; subst h2
    obtain ⟨hop, hn, ht⟩ := hc; obtain ⟨e, ht⟩ := tySlice_ex ht
    cases hx
    cases hy with
    | pd hp => cases hp <;> simp only [PD.isN, Bool.false_eq_true] at hn; exact bo_eql xo yo _ _ _ hop (by cases op <;> rfl) (equal_slice ht _ _ _ _ _ _ (by simp)) (by intro o ho; rcases isEql_or ho with rfl | rfl <;> rfl)
  · obtain ⟨hc, h2⟩ := gd_some h; subst h2
    obtain ⟨hop, hn, ht⟩ := hc; obtain ⟨e, ht⟩ := tySlice_ex ht
    cases hy
    cases hx with
    | pd hp => cases hp <;> simp only [PD.isN, Bool.false_eq_true] at hn; exact bo_eql xo yo _ _ _ hop (by cases op <;> rfl) (equal_slice ht _ _ _ _ _ _ (by simp)) (by intro o ho; rcases isEql_or ho with rfl | rfl <;> rfl)
  · obtain ⟨hc, h2⟩ := gd_some h; subst h2
    obtain ⟨hop, ht⟩ := hc; obtain ⟨a, ht⟩ := tyIfc_ex ht
    cases hx; cases hy
    exact bo_eql xo yo _ _ _ hop (by cases op <;> rfl) (equal_if2 ht _ _) (by intro o ho; rcases isEql_or ho with rfl | rfl <;> rfl)
  · obtain ⟨hc, h2⟩ := gd_some h; subst h2
    obtain ⟨hop, ht⟩ := hc; obtain ⟨a, ht⟩ := tyIfc_ex ht
    cases hx; cases hy
    exact bo_eql xo yo _ _ _ hop (by cases op <;> rfl) (equal_if1 ht _ _) (by intro o ho; rcases isEql_or ho with rfl | rfl <;> rfl)
  · obtain ⟨hc, h2⟩ := gd_some h; subst h2
    obtain ⟨hop, ht⟩ := hc; have ht := tyIf0_ex ht
    cases hx; cases hy
    exact bo_eql xo yo _ _ _ hop (guard_if ht xo yo) (equal_if0 ht) (by intro o ho; rcases isEql_or ho with rfl | rfl <;> rfl)
  · cases h

end Go.Proofs.YtkcelehlilppcaaGreat
