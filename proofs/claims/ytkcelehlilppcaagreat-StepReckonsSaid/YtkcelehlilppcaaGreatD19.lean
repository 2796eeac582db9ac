/- Functions: results, deferred calls. No condition. -/
import Derived.Test.YtkcelehlilppcaaGreatD18
import Derived.RangeFuncLeaves
import Derived.RecoverIn
set_option linter.unusedVariables false
set_option linter.unusedSimpArgs false
namespace Go.Proofs.YtkcelehlilppcaaGreat
open Go.RowKit Go.MapKept

/-- How a frame stands that is on its way out. -/
inductive XU where
  | ret
  | pan (v : DV)
  | got (v : DV)

def UR (E : EV) (w : World) : XU → FrameMode → Prop
  | .ret, m => m = .returning
  | .pan d, m => ∃ v, m = .panicking [{ v, recovered := false }] ∧ VR E w d v
  | .got d, m => ∃ v, m = .panicking [{ v, recovered := true }] ∧ VR E w d v

theorem UR.mono {E E' : EV} {w w' : World} (h : EE E E' w w') {u : XU} {m : FrameMode} (hu : UR E w u m) : UR E' w' u m := by
  cases u with
  | ret => exact hu
  | pan d => obtain ⟨v, h1, h2⟩ := hu; exact ⟨v, h1, h2.mono h⟩
  | got d => obtain ⟨v, h1, h2⟩ := hu; exact ⟨v, h1, h2.mono h⟩

def settleD : XU → XU | .got _ => .ret | u => u

theorem settleD_sound {E : EV} {w : World} {u : XU} {m : FrameMode} (h : UR E w u m) : UR E w (settleD u) (settle m) := by
  cases u with
  | ret => cases h; rfl
  | pan d => obtain ⟨v, rfl, h2⟩ := h; exact ⟨v, rfl, h2⟩
  | got d => obtain ⟨v, rfl, h2⟩ := h; rfl

def resD (P : Program) (M : List DE) (t : List DV) : List ResultVar → Option (List DV)
  | [] => some []
  | .tmp i :: rs => (resD P M t rs).map (t.getD i .un :: ·)
  | .cell a ty :: rs => match ldD P M ty (t.getD a .un), resD P M t rs with | some v, some vs => some (v :: vs) | _, _ => none

theorem ldD_var {P : Program} {E : EV} {w : World} {M : List DE} {t : TypeId} {x v : DV} {u : Value} (h : ldD P M t x = some v) (hx : VR E w x u) (hH : HR E M w) :
    ∃ r, (do loadVar t (← asAddr u) : Sem Value).run P w = .ok r w ∧ VR E w v r := by
  obtain ⟨r, h1, h2⟩ := ldD_sound h hx hH
  refine ⟨r, ?_, h2⟩
  unfold ldD at h
  split at h
  · split at h
    · cases hx; simpa [Instr.loadAt, Instr.sureAddr, asAddr] using h1
    · cases hx; simpa [Instr.loadAt, Instr.sureAddr, asAddr] using h1
    · cases hx; simpa [Instr.loadAt, Instr.sureAddr, asAddr] using h1
    · cases h
  · cases h

theorem resD_sound {P : Program} {E : EV} {w : World} {M : List DE} {t : List DV} {tmps : Array Value} (ht : LR E w t tmps) (hH : HR E M w) : ∀ (rs : List ResultVar) (vs : List DV), resD P M t rs = some vs →
    ∃ us : List Value, (rs.mapM (fun | .tmp t => pure (tmps.getD t undef) | .cell a t => do loadVar t (← asAddr (tmps.getD a undef)) : ResultVar → Sem Value)).run P w = .ok us w ∧ LR E w vs us.toArray := by
  have hev : ∀ i, VR E w (t.getD i .un) (tmps.getD i undef) := fun i => ev_sound (a := { tmps, defers := [] }) ht (.tmp i)
  intro rs
  induction rs with
  | nil => intro vs h; simp only [resD, Option.some.injEq] at h; subst h; exact ⟨[], rfl, rfl, fun i x v h => by simp at h⟩
  | cons r rs ih =>
    intro vs h
    have fin : ∀ x u xs us, (rs.mapM (fun | .tmp t => pure (tmps.getD t undef) | .cell a t => do loadVar t (← asAddr (tmps.getD a undef)) : ResultVar → Sem Value)).run P w = .ok us w → LR E w xs us.toArray → VR E w x u →
        LR E w (x :: xs) (u :: us).toArray := fun x u xs us _ hl hx => ⟨by simp; simpa using hl.1, fun i y v h1 h2 => by
      cases i with
      | zero => simp at h1 h2; subst h1 h2; exact hx
      | succ i => simp at h1 h2; exact hl.2 i y v h1 (by simpa using h2)⟩
    rw [List.mapM_cons]
    cases r with
    | tmp i =>
      simp only [resD, Option.map_eq_some_iff] at h
      obtain ⟨vs', h1, rfl⟩ := h
      obtain ⟨us, h2, h3⟩ := ih vs' h1
      refine ⟨tmps.getD i undef :: us, ?_, fin _ _ _ _ h2 h3 (hev i)⟩
      simp only [Sem.run_bind, Sem.run_pure, Result.andThen_ok, h2]
    | cell a ty =>
      simp only [resD] at h
      split at h
      · rename_i v vs' h0 h1
        injection h with h; subst h
        obtain ⟨us, h2, h3⟩ := ih vs' h1
        obtain ⟨r, h4, h5⟩ := ldD_var h0 (hev a) hH
        refine ⟨r :: us, ?_, fin _ _ _ _ h2 h3 h5⟩
        rw [Sem.run_bind, h4]
        simp only [Result.andThen_ok, Sem.run_bind, h2, Sem.run_pure]
      · cases h

def resV (P : Program) (M : List DE) (t : List DV) (fn : Func) : Option DV :=
  match resD P M t fn.results.toList with
  | some [v] => some v
  | some vs => some (.tup vs)
  | none => none

theorem resV_sound {P : Program} {E : EV} {w : World} {M : List DE} {t : List DV} {tmps : Array Value} {fn : Func} {v : DV} (h : resV P M t fn = some v) (ht : LR E w t tmps) (hH : HR E M w) :
    ∃ u, (results fn tmps).run P w = .ok u w ∧ VR E w v u := by
  unfold resV at h
  have main : ∀ vs, resD P M t fn.results.toList = some vs → ∃ us : List Value, (results fn tmps).run P w = .ok (if h : us.toArray.size = 1 then us.toArray[0] else .tuple us.toArray) w ∧ LR E w vs us.toArray := fun vs hv => by
    obtain ⟨us, h1, h2⟩ := resD_sound ht hH _ _ hv
    refine ⟨us, ?_, h2⟩
    unfold results
    rw [Array.mapM_eq_mapM_toList]
    simp only [Sem.run_bind, Sem.run_map]
    exact congrArg (fun r : Result (List Value) => (r.andThen fun a w' => Result.ok a.toArray w').andThen fun a w' => Sem.run P (pure (if h : a.size = 1 then a[0] else Value.tuple a)) w') h1
  split at h
  · rename_i x hx
    injection h with h; subst h
    obtain ⟨us, h1, h2⟩ := main _ hx
    have hlen : us.length = 1 := by simpa using h2.1
    obtain ⟨u, rfl⟩ := List.length_eq_one_iff.1 hlen
    refine ⟨u, by rw [h1]; rfl, h2.2 0 x u rfl (by simp)⟩
  · rename_i vs hne hx
    injection h with h; subst h
    obtain ⟨us, h1, h2⟩ := main _ hx
    have hlen : ¬ (us.toArray.size = 1) := fun hl => by
      rw [h2.1] at hl
      obtain ⟨x, rfl⟩ := List.length_eq_one_iff.1 hl
      exact hne x rfl
    exact ⟨_, by rw [h1, dif_neg hlen], .tup h2.1 h2.2⟩
  · cases h

/-! ### Leaving -/
abbrev Df := FuncId → List DV → XU → List DE → Option (XU × List DE)

def DfOk (P : Program) (df : Df) : Prop := ∀ g args u M u' M', df g args u M = some (u', M') → callOk P g = true ∧
  ∀ (E : EV) (w : World) (vs : Array Value) (m : FrameMode) (n : Nat), HR E M w → LR E w args vs → UR E w u m →
    CallsDIn (WF none) n P g vs m w fun e m' w' => ∃ v E', e = .returned v ∧ HR E' M' w' ∧ XT ⟨w, E, M, []⟩ E' M' w' ∧ UR E' w' u' m'

def xleave (P : Program) (df : Df) (fn : Func) (t : List DV) : List XD → XU → List DE → Option (DZ × List DE)
  | [], .ret, M => (resV P M t fn).map fun v => (.ret v, M)
  | [], .pan v, M => some (.pan v, M)
  | [], .got _, _ => none
  | .mark r :: ds, u, M => match M[r]? with | some (.dfr true) => xleave P df fn t ds u (M.set r (.dfr false)) | _ => none
  | .fn (.func g) cap args :: ds, u, M => match df g (args ++ cap) u M with | some (u', M') => xleave P df fn t ds (settleD u') M' | none => none
  | _ :: _, _, _ => none

theorem UR.ne_run {E : EV} {w : World} {u : XU} {m : FrameMode} (h : UR E w u m) : m ≠ .run := by
  cases u with
  | ret => cases h; exact fun h => by cases h
  | pan d => obtain ⟨v, rfl, _⟩ := h; exact fun h => by cases h
  | got d => obtain ⟨v, rfl, _⟩ := h; exact fun h => by cases h

theorem xleave_sound {P : Program} {df : Df} (hdf : DfOk P df) {fn : Func} {t : List DV} {n : Nat} {tmps : Array Value} {R : Ending → World → Prop} : ∀ (ds : List XD) (u : XU) (M : List DE) (r : DZ) (M' : List DE), xleave P df fn t ds u M = some (r, M') →
    ∀ (E : EV) (w : World) (dd : List Deferred) (m : FrameMode), HR E M w → LR E w t tmps → DfRs E w ds dd → UR E w u m →
      (∀ e w', (∃ E', HR E' M' w' ∧ ZR E' w' r e ∧ XT ⟨w, E, M, []⟩ E' M' w') → R e w') → LeavesInM (WF none) n P fn tmps R dd m w := by
  intro ds
  induction ds with
  | nil =>
    intro u M r M' h E w dd m hH ht hd hu hR
    cases dd with
    | cons => exact hd.elim
    | nil =>
      cases u with
      | ret =>
        simp only [xleave, Option.map_eq_some_iff] at h
        obtain ⟨v, h1, h2⟩ := h
        injection h2 with h2 h3; subst h2 h3
        cases hu
        obtain ⟨z, a1, a2⟩ := resV_sound h1 ht hH
        exact ⟨z, a1, hR _ _ ⟨E, hH, ⟨z, rfl, a2⟩, XT.refl _ _ _ _⟩⟩
      | pan d =>
        simp only [xleave, Option.some.injEq, Prod.mk.injEq] at h
        obtain ⟨rfl, rfl⟩ := h
        obtain ⟨v, rfl, hv⟩ := hu
        exact hR _ _ ⟨E, hH, ⟨v, rfl, hv⟩, XT.refl _ _ _ _⟩
      | got d => simp [xleave] at h
  | cons x ds ih =>
    intro u M r M' h E w dd m hH ht hd hu hR
    cases dd with
    | nil => exact hd.elim
    | cons d dd =>
      obtain ⟨hx, hds⟩ := hd
      refine ⟨hu.ne_run, ?_⟩
      cases x with
      | mark id =>
        simp only [xleave] at h
        split at h
        · rename_i hM
          obtain ⟨h1, h2⟩ := hx
          have ho := hH.objs _ _ hM
          have hheap : w.heap[E.b id]? = some (.deferred (some [])) := ho
          have hst := setObj_step (o' := .dfr false) hH hM trivial trivial (.deferred none) _ hheap [] (fun w' hE hb => hb)
          refine .inl ⟨E.b id, _, by rw [h1], ?_, ih u _ r M' h E _ dd m hst.1 (ht.mono hst.2.2) (hds.mono hst.2.2) (hu.mono hst.2.2) fun e w' ⟨E', g1, g2, g3⟩ => hR e w' ⟨E', g1, g2, hst.2.1.trans g3⟩⟩
          simp only [Instr.takeDeferred, Sem.run_bind, gobj hheap, Result.andThen_ok, sobj _ hheap, Sem.run_pure]
        · cases h
      | fn f cap args =>
        obtain ⟨vs, us, h1, h2, h3⟩ := hx
        cases f with
        | func g =>
          simp only [xleave] at h
          split at h
          · rename_i u' M1 hcall
            obtain ⟨hok, hc⟩ := hdf _ _ _ _ _ _ hcall
            have hcc := hc E w (us ++ vs) m (n - 1) hH (h3.app h2) hu
            refine .inr ⟨fun h => by simp [WF, Fence.wide] at h, .func g, vs, g, us ++ vs, by rw [h1], by rw [h1]; exact callOk_enter hok _ w, fun _ _ => trivial, hcc.mono ?_⟩
            rintro e m' w1 ⟨v, E1, rfl, g1, g2, g3⟩
            have hE := EE.of hH g2
            exact ih (settleD u') M1 r M' h E1 w1 dd (settle m') g1 (ht.mono hE) (hds.mono hE) (settleD_sound g3) fun e w' ⟨E', q1, q2, q3⟩ => hR e w' ⟨E', q1, q2, g2.trans q3⟩
          · cases h
        | _ => simp [xleave] at h

end Go.Proofs.YtkcelehlilppcaaGreat
