/- Code. No condition. -/
import Derived.Test.YtkcelehlilppcaaGreatD17
import Derived.LoopNIn
import Derived.OrdersIn
set_option linter.unusedVariables false
set_option linter.unusedSimpArgs false
namespace Go.Proofs.YtkcelehlilppcaaGreat
open Go.RowKit Go.MapKept

/-- The round that a frame is of. -/
def Rn (E : EV) (ro rnd : Option Nat) : Prop := match ro with | none => rnd = none | some id => E.al id ∧ rnd = some (E.b id)

theorem Rn.mono {E E' : EV} {w w' : World} (h : EE E E' w w') {ro rnd : Option Nat} (hr : Rn E ro rnd) : Rn E' ro rnd := by
  cases ro with
  | none => exact hr
  | some id => exact ⟨h.al _ hr.1, by rw [hr.2, h.b _ hr.1]⟩

def CodeOk (P : Program) (ro : Option Nat) (c : Code) (st : XS) (xe : XE) (st' : XS) : Prop :=
  ∀ (E : EV) (a : Act) (w : World) (n : Nat) (rnd : Option Nat), Rn E ro rnd → AR E st a w → c.wpIn (WF rnd) n P (fun e a' w' => TR E st.M w xe st' e a' w') a w

theorem TR.trans {E E1 : EV} {st st1 : XS} {a1 : Act} {w w1 : World} (hA1 : AR E1 st1 a1 w1) (hX : XT ⟨w, E, st.M, []⟩ E1 st1.M w1) {xe : XE} {st' : XS} {e : Exit} {a' : Act} {w' : World}
    (h : TR E1 st1.M w1 xe st' e a' w') : TR E st.M w xe st' e a' w' := by
  obtain ⟨E', h1, h2, h3⟩ := h
  exact ⟨E', h1, hX.trans h2, h3⟩

def xops (P : Program) (co : Co) (nr : Bool) (ops : Array Oper) : List Nat → XS → Option (XE × XS)
  | [], st => some (.normal, st)
  | i :: l, st =>
    match xstep P co nr ops i st with
    | some (.normal, st') => xops P co nr ops l st'
    | r => r

theorem xops_sound {P : Program} {co : Co} (hco : CoOk P co) {nr : Bool} {n : Nat} {rnd : Option Nat} (hnr : nr = true → rnd = none) {ops : Array Oper} {Q : Exit → Act → World → Prop} : ∀ (l : List Nat) (st : XS) (xe : XE) (st' : XS), xops P co nr ops l st = some (xe, st') →
    ∀ (E : EV) (a : Act) (w : World), AR E st a w → (∀ e a' w', TR E st.M w xe st' e a' w' → Q e a' w') → wpOpsIn (WF rnd) n P ops Q l a w
  | [], st, xe, st', h, E, a, w, hA, hQ => by
    injection h with h; injection h with h1 h2; subst h1 h2
    exact hQ _ _ _ ⟨E, hA, XT.refl _ _ _ _, rfl⟩
  | i :: l, st, xe, st', h, E, a, w, hA, hQ => by
    unfold xops at h
    rw [wpOpsIn_cons]
    split at h
    · rename_i st1 h1
      refine xstep_sound hco hnr h1 hA (fun _ E1 a1 w1 hA1 hX => ?_) (fun v hv => by cases hv)
      exact xops_sound hco hnr l st1 xe st' h E1 a1 w1 hA1 fun e a' w' ht => hQ _ _ _ (TR.trans hA1 hX ht)
    · rename_i r hr
      refine xstep_sound hco hnr h hA (fun hn => ?_) (fun v hv E1 u w1 hA1 hX hu => hQ _ _ _ ⟨E1, hA1, hX, ?_⟩)
      · subst hn; exact absurd h (hr _)
      · subst hv; exact ⟨u, rfl, hu⟩

/-- Regions that draw their order. -/
abbrev Xd := Array Oper → XS → Option XS
def XdOk (P : Program) (xd : Xd) : Prop := ∀ ops st st', xd ops st = some st' → ∀ (E : EV) (a : Act) (w : World) (n : Nat) (rnd : Option Nat) (id : Nat), AR E st a w →
  (Code.region id ops true).wpIn (WF rnd) n P (fun e a' w' => TR E st.M w .normal st' e a' w') a w

/-- Ranges over functions. -/
abbrev Xr := Option Nat → Operand → Array Tmp → Code → Code → XS → Option (XE × XS)
def XrOk (P : Program) (xr : Xr) : Prop := ∀ ro g ps as body st xe st', xr ro g ps as body st = some (xe, st') → CodeOk P ro (.rangeFunc g ps as body) st xe st'

def xcode (P : Program) (co : Co) (xd : Xd) (xr : Xr) (ro : Option Nat) : Nat → Code → XS → Option (XE × XS)
  | 0, _, _ => none
  | n + 1, c, st =>
    match c with
    | .skip => some (.normal, st)
    | .region _ ops draw => if draw then (xd ops st).map fun s => (.normal, s) else xops P co ro.isNone ops (List.range ops.size) st
    | .seq x y =>
      match xcode P co xd xr ro n x st with
      | some (.normal, st') => xcode P co xd xr ro n y st'
      | r => r
    | .cond c x y => match ev st.t c with | .pd (.bool b) => xcode P co xd xr ro n (if b then x else y) st | _ => none
    | .block id x =>
      match xcode P co xd xr ro n x st with
      | some (.exit j, st') => some (if j = id then .normal else .exit j, st')
      | r => r
    | .loop x =>
      match xcode P co xd xr ro n x st with
      | some (.normal, st') => xcode P co xd xr ro n (.loop x) st'
      | r => r
    | .rangeFunc g ps as body => xr ro g ps as body st
    | .exit id => some (.exit id, st)
    | .label _ => some (.normal, st)
    | .ret => some (.ret, st)
    | _ => none

theorem ER.normal {E : EV} {w : World} {e : Exit} (h : ER E w .normal e) : e = .normal := h

/-- The rounds of a loop. -/
theorem xcode_sound {P : Program} {co : Co} {xd : Xd} {xr : Xr} (hco : CoOk P co) (hxd : XdOk P xd) (hxr : XrOk P xr) {ro : Option Nat} : ∀ (n : Nat) (c : Code) (st : XS) (xe : XE) (st' : XS), xcode P co xd xr ro n c st = some (xe, st') →
    CodeOk P ro c st xe st' ∧ ∀ x, c = .loop x → ∃ m, ∀ (E : EV) (a : Act) (w : World) (k : Nat) (rnd : Option Nat) (Q : Exit → Act → World → Prop), Rn E ro rnd → AR E st a w → (∀ e a' w', TR E st.M w xe st' e a' w' → Q e a' w') → Code.roundsIn (WF rnd) k P x Q m a w := by
  intro n
  induction n with
  | zero => intro c st xe st' h; simp [xcode] at h
  | succ n ih =>
    intro c st xe st' h
    have loop : ∀ x, c = .loop x → ∃ m, ∀ (E : EV) (a : Act) (w : World) (k : Nat) (rnd : Option Nat) (Q : Exit → Act → World → Prop), Rn E ro rnd → AR E st a w → (∀ e a' w', TR E st.M w xe st' e a' w' → Q e a' w') → Code.roundsIn (WF rnd) k P x Q m a w := by
      rintro x rfl
      simp only [xcode] at h
      split at h
      · rename_i st1 h1
        obtain ⟨m, hm⟩ := (ih (.loop x) st1 xe st' h).2 x rfl
        refine ⟨m + 1, fun E a w k rnd Q hrn hA hQ => ?_⟩
        rw [roundsIn_succ]
        refine wpIn_mono ((ih x st .normal st1 h1).1 E a w k rnd hrn hA) ?_
        rintro e a1 w1 ⟨E1, g1, g2, g3⟩
        have := ER.normal g3; subst this
        exact hm E1 a1 w1 k rnd Q (hrn.mono (EE.of hA.H g2)) g1 fun e a' w' ht => hQ _ _ _ (TR.trans g1 g2 ht)
      · rename_i r hr
        refine ⟨1, fun E a w k rnd Q hrn hA hQ => ?_⟩
        rw [roundsIn_succ]
        refine wpIn_mono ((ih x st xe st' h).1 E a w k rnd hrn hA) ?_
        rintro e a1 w1 ⟨E1, g1, g2, g3⟩
        have hne : e ≠ .normal := by
          rintro rfl
          cases xe with
          | normal => exact hr _ h
          | pan v => obtain ⟨u, hu, _⟩ := g3; cases hu
          | exit id => cases g3
          | ret => cases g3
        have hq := hQ _ _ _ ⟨E1, g1, g2, g3⟩
        cases e <;> first | exact hq | exact absurd rfl hne
    refine ⟨?_, loop⟩
    intro E a w k rnd hrn hA
    cases c with
    | skip =>
      simp only [xcode, Option.some.injEq, Prod.mk.injEq] at h
      obtain ⟨rfl, rfl⟩ := h
      exact wpIn_skip ⟨E, hA, XT.refl _ _ _ _, rfl⟩
    | label l =>
      simp only [xcode, Option.some.injEq, Prod.mk.injEq] at h
      obtain ⟨rfl, rfl⟩ := h
      exact wpIn_label ⟨E, hA, XT.refl _ _ _ _, rfl⟩
    | exit id =>
      simp only [xcode, Option.some.injEq, Prod.mk.injEq] at h
      obtain ⟨rfl, rfl⟩ := h
      exact wpIn_exit ⟨E, hA, XT.refl _ _ _ _, rfl⟩
    | ret =>
      simp only [xcode, Option.some.injEq, Prod.mk.injEq] at h
      obtain ⟨rfl, rfl⟩ := h
      exact wpIn_ret ⟨E, hA, XT.refl _ _ _ _, rfl⟩
    | region id ops draw =>
      simp only [xcode] at h
      cases draw with
      | true =>
        simp only [if_true, Option.map_eq_some_iff] at h
        obtain ⟨s, hs, h⟩ := h
        injection h with h1 h2; subst h1 h2
        exact hxd ops st _ hs E a w k rnd id hA
      | false =>
        simp only [Bool.false_eq_true, if_false] at h
        exact wpIn_region (xops_sound hco (fun hn => by cases ro with | none => exact hrn | some _ => cases hn) _ st xe st' h E a w hA fun _ _ _ ht => ht)
    | seq x y =>
      simp only [xcode] at h
      split at h
      · rename_i st1 h1
        refine wpIn_seq (wpIn_mono ((ih x st .normal st1 h1).1 E a w k rnd hrn hA) ?_)
        rintro e a1 w1 ⟨E1, g1, g2, g3⟩
        have := ER.normal g3; subst this
        exact wpIn_mono ((ih y st1 xe st' h).1 E1 a1 w1 k rnd (hrn.mono (EE.of hA.H g2)) g1) fun e a' w' ht => TR.trans g1 g2 ht
      · rename_i r hr
        refine wpIn_seq (wpIn_mono ((ih x st xe st' h).1 E a w k rnd hrn hA) ?_)
        rintro e a1 w1 ⟨E1, g1, g2, g3⟩
        have hne : e ≠ .normal := by
          rintro rfl
          cases xe with
          | normal => exact hr _ h
          | pan v => obtain ⟨u, hu, _⟩ := g3; cases hu
          | exit id => cases g3
          | ret => cases g3
        cases e <;> first | exact ⟨E1, g1, g2, g3⟩ | exact absurd rfl hne
    | cond c x y =>
      simp only [xcode] at h
      split at h
      · rename_i b hb
        have hv := ev_sound hA.t c
        rw [hb] at hv
        generalize hev : a.eval c = u at hv
        cases hv with
        | pd hp =>
          cases hp
          refine wpIn_cond hev ?_
          cases b with
          | true => exact (ih x st xe st' (by simpa using h)).1 E a w k rnd hrn hA
          | false => exact (ih y st xe st' (by simpa using h)).1 E a w k rnd hrn hA
      · cases h
    | block id x =>
      simp only [xcode] at h
      split at h
      · rename_i j st1 h1
        injection h with h; injection h with h2 h3; subst h2 h3
        refine wpIn_block (wpIn_mono ((ih x st _ _ h1).1 E a w k rnd hrn hA) ?_)
        rintro e a1 w1 ⟨E1, g1, g2, g3⟩
        have g3' : e = .exit j := g3
        subst g3'
        simp only [Exit.inBlock]
        by_cases hj : j = id
        · simp only [hj, if_true]; exact ⟨E1, g1, g2, rfl⟩
        · simp only [hj, if_false]; exact ⟨E1, g1, g2, rfl⟩
      · rename_i r hr
        refine wpIn_block (wpIn_mono ((ih x st xe st' h).1 E a w k rnd hrn hA) ?_)
        rintro e a1 w1 ⟨E1, g1, g2, g3⟩
        cases e with
        | exit j =>
          exfalso
          cases xe with
          | normal => cases g3
          | pan v => obtain ⟨u, hu, _⟩ := g3; cases hu
          | exit id => exact hr _ _ h
          | ret => cases g3
        | _ => exact ⟨E1, g1, g2, g3⟩
    | loop x =>
      obtain ⟨m, hm⟩ := loop x rfl
      exact wpIn_loop_rounds m (hm E a w k rnd _ hrn hA fun _ _ _ ht => ht)
    | rangeFunc g ps as body => exact hxr ro g ps as body st xe st' (by simpa [xcode] using h) E a w k rnd hrn hA
    | goto l => simp [xcode] at h
    | scope b => simp [xcode] at h
    | refuse s => simp [xcode] at h

end Go.Proofs.YtkcelehlilppcaaGreat
