/- Rounds, and ranges over functions. No condition. -/
import Derived.Test.YtkcelehlilppcaaGreatD21
set_option linter.unusedVariables false
set_option linter.unusedSimpArgs false
namespace Go.Proofs.YtkcelehlilppcaaGreat
open Go.RowKit Go.MapKept

theorem loop_step {E : EV} {w : World} {M : List DE} {id : Nat} {ts : List DV} {ps : Array Tmp} {as body : Code} {d : Nat} {s : LoopState} {pend : Option Code} (hH : HR E M w) (hM : M[id]? = some (.loop ts ps as body d s pend)) :
    ∃ r : Loop, w.heap[E.b id]? = some (.loop r) ∧ r.state = s ∧ r.pending = pend ∧ r.params = ps ∧ r.assign = as ∧ r.body = body ∧ LR E w ts r.tmps ∧
      ∀ (s' : LoopState) (pend' : Option Code), HR E (M.set id (.loop ts ps as body d s' pend')) { w with heap := w.heap.setIfInBounds (E.b id) (.loop { r with state := s', pending := pend' }) } ∧
        XT ⟨w, E, M, []⟩ E (M.set id (.loop ts ps as body d s' pend')) { w with heap := w.heap.setIfInBounds (E.b id) (.loop { r with state := s', pending := pend' }) } ∧
        EE E E w { w with heap := w.heap.setIfInBounds (E.b id) (.loop { r with state := s', pending := pend' }) } := by
  obtain ⟨fn, tmps, h1, h2, h3⟩ := hH.objs _ _ hM
  refine ⟨_, h1, rfl, rfl, rfl, rfl, rfl, h2, fun s' pend' => ?_⟩
  exact setObj_step (o' := .loop ts ps as body d s' pend') hH hM trivial trivial (.loop { state := s', pending := pend', fn, tmps, params := ps, assign := as, body, defers := E.b d }) _ h1 [] fun w' hE hb => ⟨fn, tmps, hb, h2.mono hE, h3⟩

theorem getLoop_run {P : Program} {w : World} {l : Nat} {r : Loop} (h : w.heap[l]? = some (.loop r)) : (Instr.getLoop l).run P w = .ok r w := run_getLoop h

def setPs (t : List DV) : List (Tmp × DV) → List DV
  | [] => t
  | (i, v) :: l => setPs (t.set i v) l

theorem setPs_sound {E : EV} {w : World} : ∀ (ps : List Tmp) (xs : List DV) (us : List Value) (t : List DV) (tmps : Array Value), LR E w t tmps → us.length = xs.length →
    (∀ (i : Nat) (x : DV) (v : Value), xs[i]? = some x → us[i]? = some v → VR E w x v) →
    LR E w (setPs t (ps.zip xs)) ((ps.zip us).foldl (fun tmps (x : Tmp × Value) => tmps.setIfInBounds x.1 x.2) tmps)
  | [], _, _, t, tmps, h, _, _ => by simpa [setPs] using h
  | p :: ps, [], us, t, tmps, h, hl, _ => by
    cases us with
    | nil => simpa [setPs] using h
    | cons => simp at hl
  | p :: ps, x :: xs, us, t, tmps, h, hl, hv => by
    cases us with
    | nil => simp at hl
    | cons u us =>
      simp only [List.zip_cons_cons, setPs, List.foldl_cons]
      exact setPs_sound ps xs us _ _ (h.put p (hv 0 x u rfl rfl)) (by simpa using hl) fun i y v hy hw => hv (i + 1) y v hy hw

def xyield (P : Program) (co : Co) (xd : Xd) (xr : Xr) (n : Nat) (id : Nat) (args : List DV) (M : List DE) : Option (DZ × List DE) :=
  match M[id]? with
  | some (.loop ts ps as body d .ready pend) =>
    if args.length = ps.size then
      match xcode P co xd xr (some id) n as ⟨setPs ts (ps.toList.zip args), M, []⟩ with
      | some (.normal, st1) =>
        match st1.M[id]? with
        | some (.loop ts1 ps1 as1 body1 d1 .ready pend1) =>
          match xcode P co xd xr (some id) n body { st1 with M := st1.M.set id (.loop ts1 ps1 as1 body1 d1 .busy pend1) } with
          | some (xe, st2) =>
            match st2.M[id]? with
            | some (.loop ts2 ps2 as2 body2 d2 _ _) =>
              match xe with
              | .normal => some (.ret (.pd (.bool true)), st2.M.set id (.loop ts2 ps2 as2 body2 d2 .ready none))
              | .ret => some (.ret (.pd (.bool false)), st2.M.set id (.loop ts2 ps2 as2 body2 d2 .done (some .ret)))
              | .exit j => some (.ret (.pd (.bool false)), st2.M.set id (.loop ts2 ps2 as2 body2 d2 .done (some (.exit j))))
              | .pan _ => none
            | _ => none
          | none => none
        | _ => none
      | _ => none
    else none
  | _ => none

theorem run_endRound' {P : Program} {w : World} {l : Nat} {r : Loop} (jump : Option Code) (h : w.heap[l]? = some (.loop r)) :
    (Instr.endRound l jump).run P w = .ok (.bool jump.isNone) { w with heap := w.heap.setIfInBounds l (.loop { r with state := if jump.isNone then .ready else .done, pending := jump }) } := by
  simp only [Instr.endRound, Sem.run_bind, getLoop_run h, Result.andThen_ok, sobj _ h, Sem.run_pure]

theorem xyield_sound {P : Program} {co : Co} {xd : Xd} {xr : Xr} (hco : CoOk P co) (hxd : XdOk P xd) (hxr : XrOk P xr) (k : Nat) : ∀ id args M r M', xyield P co xd xr k id args M = some (r, M') → ∃ v, r = .ret v ∧
    ∀ (E : EV) (w : World) (vs : Array Value) (n : Nat) (rnd : Option Nat), HR E M w → LR E w args vs → E.al id →
    ∃ fn tmps as body, (Instr.yield (E.b id) vs).run P w = .ok (.round (E.b id) fn tmps as body) w ∧
      RoundIn (WF rnd) n P (E.b id) fn tmps as body w fun e w' => ∃ u E', e = .returned u ∧ HR E' M' w' ∧ XT ⟨w, E, M, []⟩ E' M' w' ∧ VR E' w' v u := by
  intro id args M r M' h
  unfold xyield at h
  split at h
  · rename_i ts ps as body d pend hM
    split at h
    · rename_i hlen
      split at h
      · rename_i st1 hx1
        split at h
        · rename_i ts1 ps1 as1 body1 d1 pend1 hM1
          split at h
          · rename_i xe st2 hx2
            split at h
            · rename_i ts2 ps2 as2 body2 d2 s2 pend2 hM2
              have key : ∀ (b : Bool) (jump : Option Code), b = jump.isNone → (∀ E w e, ER E w xe e → (e = .normal ∧ jump = none) ∨ (e = .ret ∧ jump = some .ret) ∨ ∃ j, e = .exit j ∧ jump = some (.exit j)) →
                  r = .ret (.pd (.bool b)) → M' = st2.M.set id (.loop ts2 ps2 as2 body2 d2 (if jump.isNone then .ready else .done) jump) → ∃ v, r = .ret v ∧
                  ∀ (E : EV) (w : World) (vs : Array Value) (n : Nat) (rnd : Option Nat), HR E M w → LR E w args vs → E.al id →
                  ∃ fn tmps as body, (Instr.yield (E.b id) vs).run P w = .ok (.round (E.b id) fn tmps as body) w ∧
                    RoundIn (WF rnd) n P (E.b id) fn tmps as body w fun e w' => ∃ u E', e = .returned u ∧ HR E' M' w' ∧ XT ⟨w, E, M, []⟩ E' M' w' ∧ VR E' w' v u := by
                rintro b jump hb hexit rfl rfl
                refine ⟨_, rfl, fun E w vs n rnd hH hL ha => ?_⟩
                obtain ⟨r0, hr0, hs0, hp0, hps, has, hbody, htm, _⟩ := loop_step hH hM
                refine ⟨r0.fn, (r0.params.zip vs).foldl (fun tmps (x : Tmp × Value) => tmps.setIfInBounds x.1 x.2) r0.tmps, as, body, ?_, ?_⟩
                · have hsz : ¬ (vs.size ≠ r0.params.size) := by rw [hps, hL.1, hlen]; simp
                  simp only [Instr.yield, Sem.run_bind, getLoop_run hr0, Result.andThen_ok, hsz, if_false, Sem.run_pure, has, hbody]
                · refine roundIn_of_wpIn trivial ?_
                  have hA0 : AR E ⟨setPs ts (ps.toList.zip args), M, []⟩ { tmps := (r0.params.zip vs).foldl (fun tmps (x : Tmp × Value) => tmps.setIfInBounds x.1 x.2) r0.tmps, defers := [] } w := by
                    refine ⟨hH, ?_, trivial⟩
                    rw [← Array.foldl_toList, Array.toList_zip, hps]
                    exact setPs_sound ps.toList args vs.toList ts r0.tmps htm (by simpa using hL.1) fun i x v hx hv => hL.2 i x v hx (by simpa using hv)
                  have hw1 := (xcode_sound hco hxd hxr k as _ .normal st1 hx1).1 E _ w n (some (E.b id)) ⟨ha, rfl⟩ hA0
                  refine wpIn_mono hw1 ?_
                  rintro e a1 w1 ⟨E1, g1, g2, g3⟩
                  have := ER.normal g3; subst this
                  have hE1 := EE.of hH g2
                  have hb1 : E1.b id = E.b id := hE1.b id ha
                  obtain ⟨r1, hr1, hs1, hp1, _, _, _, _, hup1⟩ := loop_step g1.H hM1
                  obtain ⟨u1, u2, u3⟩ := hup1 .busy pend1
                  rw [hb1] at hr1 u1 u2 u3
                  refine ⟨{ w1 with heap := w1.heap.setIfInBounds (E.b id) (.loop { r1 with state := .busy, pending := pend1 }) }, ?_, ?_⟩
                  · have hpe : ({ r1 with state := .busy } : Loop) = { r1 with state := .busy, pending := pend1 } := by rw [← hp1]
                    simp only [Instr.beginRound, Sem.run_bind, getLoop_run hr1, Result.andThen_ok, sobj _ hr1, hs1, hpe, Sem.run_pure]
                  · have hA1 : AR E1 { st1 with M := st1.M.set id (.loop ts1 ps1 as1 body1 d1 .busy pend1) } a1 { w1 with heap := w1.heap.setIfInBounds (E.b id) (.loop { r1 with state := .busy, pending := pend1 }) } := ⟨u1, g1.t.mono u3, g1.d.mono u3⟩
                    have hw2 := (xcode_sound hco hxd hxr k body _ xe st2 hx2).1 E1 a1 _ n (some (E.b id)) ⟨hE1.al id ha, by rw [hb1]⟩ hA1
                    refine wpIn_mono hw2 ?_
                    rintro e a2 w2 ⟨E2, q1, q2, q3⟩
                    have hE2 := EE.of hA1.H q2
                    have hb2 : E2.b id = E.b id := (hE2.b id (hE1.al id ha)).trans hb1
                    obtain ⟨r2, hr2, hs2, hp2, _, _, _, _, hup2⟩ := loop_step q1.H hM2
                    obtain ⟨v1, v2, v3⟩ := hup2 (if jump.isNone then .ready else .done) jump
                    rw [hb2] at hr2 v1 v2 v3
                    have hend := run_endRound' (P := P) jump hr2
                    have fin : ∃ v w', (Instr.endRound (E.b id) jump).run P w2 = .ok v w' ∧ ∃ u E', (Ending.returned v) = .returned u ∧ HR E' (st2.M.set id (.loop ts2 ps2 as2 body2 d2 (if jump.isNone then .ready else .done) jump)) w' ∧
                        XT ⟨w, E, M, []⟩ E' (st2.M.set id (.loop ts2 ps2 as2 body2 d2 (if jump.isNone then .ready else .done) jump)) w' ∧ VR E' w' (.pd (.bool b)) u :=
                      ⟨_, _, hend, _, E2, rfl, v1, ((g2.trans u2).trans q2).trans v2, by rw [hb]; exact .pd (.bool _)⟩
                    rcases hexit _ _ _ q3 with ⟨rfl, rfl⟩ | ⟨rfl, rfl⟩ | ⟨j, rfl, rfl⟩
                    · exact fin
                    · exact fin
                    · exact fin
              split at h
              · injection h with h; injection h with h1 h2
                exact key true none rfl (fun E w e he => .inl ⟨he, rfl⟩) h1.symm h2.symm
              · injection h with h; injection h with h1 h2
                exact key false (some .ret) rfl (fun E w e he => .inr (.inl ⟨he, rfl⟩)) h1.symm h2.symm
              · rename_i j
                injection h with h; injection h with h1 h2
                exact key false (some (.exit j)) rfl (fun E w e he => .inr (.inr ⟨j, he, rfl⟩)) h1.symm h2.symm
              · cases h
            · cases h
          · cases h
        · cases h
      · cases h
    · cases h
  · cases h

end Go.Proofs.YtkcelehlilppcaaGreat
