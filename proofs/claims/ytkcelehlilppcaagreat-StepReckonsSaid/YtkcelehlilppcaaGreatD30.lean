/- Calls whose outcome is known already. No condition. -/
import Derived.Test.YtkcelehlilppcaaGreatD29
set_option linter.unusedVariables false
set_option linter.unusedSimpArgs false
namespace Go.Proofs.YtkcelehlilppcaaGreat
open Go.RowKit Go.MapKept

def sameE0 : DE → DE → Bool
  | .free, .free | .dead, .dead => true
  | a, b => sameE a b

def sameMs : List DE → List DE → Bool
  | [], [] => true
  | x :: l, y :: m => sameE0 x y && sameMs l m
  | _, _ => false

theorem sameMs_eq : ∀ {a b : List DE}, sameMs a b = true → a = b
  | [], [], _ => rfl
  | x :: l, y :: m, h => by
    simp only [sameMs, Bool.and_eq_true] at h
    have hx : x = y := by
      have h1 := h.1
      unfold sameE0 at h1
      split at h1
      · rfl
      · rfl
      · exact (sameE_eq h1).1
    rw [hx, sameMs_eq h.2]
  | [], _ :: _, h | _ :: _, [], h => by simp [sameMs] at h

structure Memo where
  f : FuncId
  args : List DV
  M : List DE
  r : DZ
  M' : List DE

/-- What a call comes to, in any memory that stands so. -/
def CallIs (P : Program) (f : FuncId) (args : List DV) (M : List DE) (r : DZ) (M' : List DE) : Prop :=
  callOk P f = true ∧ ∀ (E : EV) (w : World) (vs : Array Value), HR E M w → LR E w args vs → Calls P f vs w fun e w' => ∃ E', HR E' M' w' ∧ ZR E' w' r e ∧ XT ⟨w, E, M, []⟩ E' M' w'

def MemoOk (P : Program) (T : List Memo) : Prop := ∀ m ∈ T, CallIs P m.f m.args m.M m.r m.M'

theorem CallIs.of {P : Program} {co : Co} (hco : CoOk P co) {f : FuncId} {args : List DV} {M M' : List DE} {r : DZ} (h : co (.inl f) args M = some (r, M')) : CallIs P f args M r M' := hco.fn _ _ _ _ _ h

theorem MemoOk.nil (P : Program) : MemoOk P [] := fun m h => by simp at h
theorem MemoOk.cons {P : Program} {m : Memo} {T : List Memo} (h : CallIs P m.f m.args m.M m.r m.M') (hT : MemoOk P T) : MemoOk P (m :: T) := fun x hx => by
  rcases List.mem_cons.1 hx with rfl | hx
  · exact h
  · exact hT x hx

def memoD (f : FuncId) (args : List DV) (M : List DE) : List Memo → Option (DZ × List DE)
  | [] => none
  | m :: T => if (Nat.beq m.f f && (sameVs m.args args && sameMs m.M M)) = true then some (m.r, m.M') else memoD f args M T

theorem memoD_sound {P : Program} {f : FuncId} {args : List DV} {M M' : List DE} {r : DZ} : ∀ {T : List Memo}, MemoOk P T → memoD f args M T = some (r, M') → CallIs P f args M r M'
  | [], _, h => by cases h
  | m :: T, hT, h => by
    simp only [memoD] at h
    split at h
    · rename_i hc
      simp only [Bool.and_eq_true] at hc
      obtain ⟨h1, h2, h3⟩ := hc
      injection h with h; injection h with h4 h5
      have := hT m (by simp)
      rw [Nat.eq_of_beq_eq_true h1, sameVs_eq h2, sameMs_eq h3, h4, h5] at this
      exact this
    · exact memoD_sound (fun x hx => hT x (by simp [hx])) h

/-- Calls, level by level, with those that are known ahead. -/
def xlevM (P : Program) (xd : Co → Xd) (gf : FuncId → Bool) (T : List Memo) (B : Nat) : Nat → Co
  | 0, _, _, _ => none
  | k + 1, .inl f, args, M =>
    match memoD f args M T with
    | some r => some r
    | none =>
      match xfun P (xlevM P xd gf T B k) (xd (xlevM P xd gf T B k)) (xrange (xlevM P xd gf T B k)) (xdfn P (xlevM P xd gf T B k) (xd (xlevM P xd gf T B k)) (xrange (xlevM P xd gf T B k)) B) B f args M with
      | some (z, M') => if gf f && decide (M.length ≤ M'.length) then some (gcD M.length z M') else some (z, M')
      | none => none
  | k + 1, .inr id, args, M => xyield P (xlevM P xd gf T B k) (xd (xlevM P xd gf T B k)) (xrange (xlevM P xd gf T B k)) B id args M

theorem xlevM_sound {P : Program} {xd : Co → Xd} (hxd : ∀ co, CoOk P co → XdOk P (xd co)) (gf : FuncId → Bool) {T : List Memo} (hT : MemoOk P T) (B : Nat) : ∀ k, CoOk P (xlevM P xd gf T B k)
  | 0 => ⟨fun f args M r M' h => by simp [xlevM] at h, fun id args M r M' h => by simp [xlevM] at h⟩
  | k + 1 => by
    have ih := xlevM_sound hxd gf hT B k
    refine ⟨fun f args M r M' h => ?_, fun id args M r M' h => ?_⟩
    · simp only [xlevM] at h
      split at h
      · rename_i p hp
        injection h with h; subst h
        exact memoD_sound hT hp
      · split at h
        · rename_i z M1 hz
          have hs := xfun_sound ih (hxd _ ih) (xrange_sound ih) (xdfn_sound ih (hxd _ ih) (xrange_sound ih) B) hz
          split at h
          · rename_i hc
            simp only [Bool.and_eq_true, decide_eq_true_eq] at hc
            injection h with h
            have e1 : r = (gcD M.length z M1).1 := by rw [h]
            have e2 : M' = (gcD M.length z M1).2 := by rw [h]
            subst e1 e2
            refine ⟨hs.1, fun E w vs hH hL => (hs.2 E w vs hH hL).mono ?_⟩
            rintro e w' ⟨E', g1, g2, g3⟩
            obtain ⟨E2, q1, q2, q3⟩ := gc_sound (C := ⟨w, E, M, []⟩) (fun i hi => by obtain ⟨o, ho, _⟩ := hH.al i hi; exact lt_of_getElem? ho) hc.2 g1 g3 g2
            exact ⟨E2, q1, q3, q2⟩
          · injection h with h; injection h with h1 h2; subst h1 h2; exact hs
        · cases h
    · exact xyield_sound ih (hxd _ ih) (xrange_sound ih) B id args M r M' (by simpa [xlevM] using h)

/-- A closed run's own way. -/
theorem CallIs.run {P : Program} (hmo : P.follows .mixedOrders = true) {T : List Memo} (hT : MemoOk P T) (gf : FuncId → Bool) {B k : Nat} {f : FuncId} {args : List DV} {M M' : List DE} {r : DZ}
    (h : xlevM P (xdraw P) gf T B k (.inl f) args M = some (r, M')) : CallIs P f args M r M' := .of (xlevM_sound (fun co hco => xdraw_sound hco hmo) gf hT B k) h

/-- The same, looked at by the kernel: both sides are laid beside each other piece by piece. -/
def sameZ : DZ → DZ → Bool
  | .ret a, .ret b => sameV a b
  | .pan a, .pan b => sameV a b
  | _, _ => false

def isR (x : Option (DZ × List DE)) (r : DZ) (M : List DE) : Bool := match x with | some (z, m) => sameZ r z && sameMs M m | none => false

theorem isR_eq {x : Option (DZ × List DE)} {r : DZ} {M : List DE} (h : isR x r M = true) : x = some (r, M) := by
  unfold isR at h
  split at h
  · rename_i z m
    simp only [Bool.and_eq_true] at h
    have : r = z := by
      cases r <;> cases z <;> simp only [sameZ] at h <;> first
        | (rw [sameV_eq h.1]; done)
        | exact absurd h.1 (by decide)
    rw [this, sameMs_eq h.2]
  · cases h

theorem CallIs.kern {P : Program} (hmo : P.follows .mixedOrders = true) {T : List Memo} (hT : MemoOk P T) (gf : FuncId → Bool) {B k : Nat} {f : FuncId} {args : List DV} {M M' : List DE} {r : DZ}
    (h : isR (xlevM P (xdraw P) gf T B k (.inl f) args M) r M' = true) : CallIs P f args M r M' := .run hmo hT gf (isR_eq h)

def isTrue (x : Option (DZ × List DE)) : Bool := match x with | some (.ret (.pd (.bool true)), _) => true | _ => false

theorem isRet_ex {P : Program} (hmo : P.follows .mixedOrders = true) {T : List Memo} (hT : MemoOk P T) (gf : FuncId → Bool) {B k : Nat} {f : FuncId}
    (h : isTrue (xlevM P (xdraw P) gf T B k (.inl f) [] []) = true) : ∃ M', CallIs P f [] [] (.ret (.pd (.bool true))) M' := by
  unfold isTrue at h
  split at h
  · rename_i m hx
    exact ⟨m, .run hmo hT gf hx⟩
  · cases h

/-- A call of no arguments, from any world: nothing that was there is changed. -/
theorem CallIs.closed {P : Program} {f : FuncId} {M' : List DE} {d : DV} (h : CallIs P f [] [] (.ret d) M') (w : World) :
    Calls P f #[] w fun e w' => ∃ v E', e = .returned v ∧ VR E' w' d v ∧ XT ⟨w, ⟨fun _ => False, fun _ => False, fun _ => 0, fun _ => 0, fun _ => 0⟩, [], []⟩ E' M' w' := by
  have hH : HR ⟨fun _ => False, fun _ => False, fun _ => 0, fun _ => 0, fun _ => 0⟩ [] w := ⟨fun i o h => by simp at h, fun i o h => by simp at h, fun i j o o' h => by simp at h, fun i h => h.elim, fun i o h => by simp at h, fun b h => h.elim⟩
  refine (h.2 _ w #[] hH ⟨rfl, fun i x v h => by simp at h⟩).mono ?_
  rintro e w' ⟨E', g1, ⟨v, rfl, g2⟩, g3⟩
  exact ⟨v, E', rfl, g2, g3⟩

end Go.Proofs.YtkcelehlilppcaaGreat
