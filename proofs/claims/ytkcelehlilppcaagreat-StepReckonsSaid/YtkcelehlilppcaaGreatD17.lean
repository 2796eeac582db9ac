/- One operation, calls and deferred calls among them, in a frame's state. No condition. -/
import Derived.Test.YtkcelehlilppcaaGreatDX
import Derived.ControlIn
import Derived.RangeFuncIn
import Derived.RangeFuncCalls
set_option linter.unusedVariables false
set_option linter.unusedSimpArgs false
namespace Go.Proofs.YtkcelehlilppcaaGreat
open Go.RowKit Go.MapKept

/-- A call that is put off. -/
inductive XD where
  | fn (f : Fn) (cap args : List DV)
  | mark (id : Nat)

structure XS where
  t : List DV
  M : List DE
  d : List XD

/-- How a piece of code is left. -/
inductive XE where
  | normal
  | exit (id : Nat)
  | ret
  | pan (v : DV)

def DfR (E : EV) (w : World) : XD → Deferred → Prop
  | .fn f cap args, d => ∃ vs us, d = { target := .fn f vs, args := us } ∧ LR E w cap vs ∧ LR E w args us
  | .mark id, d => d = { target := .collected (E.b id), args := #[] } ∧ E.al id

def DfRs (E : EV) (w : World) : List XD → List Deferred → Prop
  | [], [] => True
  | x :: xs, d :: ds => DfR E w x d ∧ DfRs E w xs ds
  | _, _ => False

theorem DfR.mono {E E' : EV} {w w' : World} (h : EE E E' w w') {x : XD} {d : Deferred} (hx : DfR E w x d) : DfR E' w' x d := by
  cases x with
  | fn f cap args =>
    obtain ⟨vs, us, h1, h2, h3⟩ := hx
    exact ⟨vs, us, h1, h2.mono h, h3.mono h⟩
  | mark id =>
    obtain ⟨h1, h2⟩ := hx
    exact ⟨by rw [h1, h.b _ h2], h.al _ h2⟩

theorem DfRs.mono {E E' : EV} {w w' : World} (h : EE E E' w w') : ∀ {xs : List XD} {ds : List Deferred}, DfRs E w xs ds → DfRs E' w' xs ds
  | [], [], _ => trivial
  | x :: xs, d :: ds, hx => ⟨hx.1.mono h, DfRs.mono h hx.2⟩
  | [], _ :: _, hx => hx.elim
  | _ :: _, [], hx => hx.elim

structure AR (E : EV) (st : XS) (a : Act) (w : World) : Prop where
  H : HR E st.M w
  t : LR E w st.t a.tmps
  d : DfRs E w st.d a.defers

def ER (E : EV) (w : World) : XE → Exit → Prop
  | .normal, e => e = .normal
  | .exit id, e => e = .exit id
  | .ret, e => e = .ret
  | .pan d, e => ∃ v, e = .panic [{ v, recovered := false }] ∧ VR E w d v

/-- What has come about, from a world with its ghosts. -/
def TR (E : EV) (M : List DE) (w : World) (xe : XE) (st' : XS) (e : Exit) (a' : Act) (w' : World) : Prop :=
  ∃ E', AR E' st' a' w' ∧ XT ⟨w, E, M, []⟩ E' st'.M w' ∧ ER E' w' xe e

theorem LR.put {E : EV} {w : World} {cs : List DV} {vs : Array Value} (h : LR E w cs vs) (d : Nat) {x : DV} {v : Value} (hx : VR E w x v) : LR E w (cs.set d x) (vs.setIfInBounds d v) := by
  refine ⟨by simp [h.1], fun i y u h1 h2 => ?_⟩
  rw [List.getElem?_set] at h1
  rw [Array.getElem?_setIfInBounds] at h2
  by_cases hd : d = i
  · subst hd
    rw [if_pos rfl] at h1 h2
    split at h1
    · split at h2
      · injection h1 with h1; injection h2 with h2; subst h1 h2; exact hx
      · cases h2
    · cases h1
  · rw [if_neg hd] at h1 h2; exact h.2 i y u h1 h2

def putD (t : List DV) : Option Tmp → DV → List DV
  | some d, v => t.set d v
  | none, _ => t

theorem put_tmps {E : EV} {w : World} {t : List DV} {a : Act} (h : LR E w t a.tmps) (dst : Option Tmp) {x : DV} {v : Value} (hx : VR E w x v) : LR E w (putD t dst x) (a.put dst v).tmps := by
  cases dst with
  | none => exact h
  | some d => exact h.put d hx

theorem put_defers (a : Act) (dst : Option Tmp) (v : Value) : (a.put dst v).defers = a.defers := by cases dst <;> rfl

/-- Is an operation wanted? -/
def wantD (ops : Array Oper) (t : List DV) (o : Oper) : Option Bool :=
  match o.guard with
  | none => some true
  | some (j, want) =>
    match ((ops[j]?).bind (·.dst)).bind (t[·]?) with
    | some (.pd (.bool b)) => some (b == want)
    | _ => none

theorem wantD_sound {E : EV} {w : World} {ops : Array Oper} {t : List DV} {a : Act} {o : Oper} {b : Bool} (h : wantD ops t o = some b) (ht : LR E w t a.tmps) : Region.wanted o (yielded ops a.tmps) = b := by
  unfold wantD at h
  unfold Region.wanted
  split at h
  · rename_i hg; rw [hg]; injection h
  · rename_i j want hg
    rw [hg]
    simp only
    split at h
    · rename_i c hc
      injection h with h; subst h
      cases hd : (ops[j]?).bind (·.dst) with
      | none => rw [hd] at hc; cases hc
      | some d =>
        rw [hd] at hc
        simp only [Option.bind_some] at hc
        have hlt : d < a.tmps.size := by rw [ht.1]; exact (List.getElem?_eq_some_iff.1 hc).1
        have hv := ht.2 d _ _ hc (Array.getElem?_eq_getElem hlt)
        have hy : yielded ops a.tmps j = some c := by
          unfold yielded
          rw [hd]
          simp only [Option.bind_some]
          rw [Array.getElem?_eq_getElem hlt]
          cases hw : a.tmps[d] <;> rw [hw] at hv <;> cases hv <;> rename_i hp <;> cases hp
          rfl
        rw [hy]
        cases c <;> cases want <;> rfl
    · cases h

/-- The fence that lets all in. -/
def WF (rnd : Option Nat) : Fence := { Fence.wide with round := rnd }

/-- What calls come to: of functions, and of a loop's yield. -/
abbrev Co := FuncId ⊕ Nat → List DV → List DE → Option (DZ × List DE)

/-- What the calls that are asked come to. -/
structure CoOk (P : Program) (co : Co) : Prop where
  fn : ∀ f args M r M', co (.inl f) args M = some (r, M') → callOk P f = true ∧ ∀ (E : EV) (w : World) (vs : Array Value), HR E M w → LR E w args vs →
    Calls P f vs w fun e w' => ∃ E', HR E' M' w' ∧ ZR E' w' r e ∧ XT ⟨w, E, M, []⟩ E' M' w'
  yld : ∀ id args M r M', co (.inr id) args M = some (r, M') → ∃ v, r = .ret v ∧ ∀ (E : EV) (w : World) (vs : Array Value) (n : Nat) (rnd : Option Nat), HR E M w → LR E w args vs → E.al id →
    ∃ fn tmps as body, (Instr.yield (E.b id) vs).run P w = .ok (.round (E.b id) fn tmps as body) w ∧
      RoundIn (WF rnd) n P (E.b id) fn tmps as body w fun e w' => ∃ u E', e = .returned u ∧ HR E' M' w' ∧ XT ⟨w, E, M, []⟩ E' M' w' ∧ VR E' w' v u

/-- What an operation comes to. -/
inductive XV where
  | val (v : DV) (M : List DE)
  | put (x : XD)
  | pan (v : DV) (M : List DE)

def xeval (P : Program) (co : Co) (nr : Bool) (o : Oper) (r : Operand → DV) (M : List DE) : Option XV :=
  match o.op with
  | .call { callee := .value f, args, argTypes := _ } =>
    match r f with
    | .fn (.func g) fs cs =>
      match extD P g (fs ++ args.toList.map r ++ cs) with
      | some v => some (.val v M)
      | none =>
        match co (.inl g) (fs ++ args.toList.map r ++ cs) M with
        | some (.ret v, M') => some (.val v M')
        | some (.pan v, M') => some (.pan v M')
        | none => none
    | .yld id =>
      match co (.inr id) (args.toList.map r) M with
      | some (.ret v, M') => some (.val v M')
      | _ => none
    | _ => none
  | .defer { callee := .value f, args, argTypes := _ } =>
    if nr then
      match r f with
      | .fn fn fs cs => some (.put (.fn fn cs (fs ++ args.toList.map r)))
      | _ => none
    else none
  | op =>
    match xop P M r op with
    | some (.val v M') => some (.val v M')
    | some (.pan v) => some (.pan v M)
    | none => none

/-- One operation. -/
def xstep (P : Program) (co : Co) (nr : Bool) (ops : Array Oper) (i : Nat) (st : XS) : Option (XE × XS) :=
  match ops[i]? with
  | none => some (.normal, st)
  | some o =>
    match wantD ops st.t o with
    | none => none
    | some false => some (.normal, { st with t := putD st.t o.dst .un })
    | some true =>
      match xeval P co nr o (ev st.t) st.M with
      | some (.val v M') => some (.normal, { st with t := putD st.t o.dst v, M := M' })
      | some (.put x) => some (.normal, { st with t := putD st.t o.dst .un, d := x :: st.d })
      | some (.pan v M') => some (.pan v, { st with M := M' })
      | none => none

theorem WF_fn (rnd : Option Nat) (f : FuncId) : (WF rnd).fn f := trivial
theorem WF_depth (rnd : Option Nat) : (WF rnd).depth.isSome = true → 1 ≤ (0 : Nat) := fun h => by simp [WF, Fence.wide] at h

theorem callsIn_WF {P : Program} {n : Nat} {rnd : Option Nat} {f : FuncId} {args : Array Value} {w : World} {R : Ending → World → Prop} (h : Calls P f args w R) : CallsIn (WF rnd) n P f args w R := by
  have h0 : CallsIn Fence.wide n P f args w R := callsIn_wide.2 h
  cases rnd with
  | none => exact h0
  | some l => exact h0.inRound l

theorem callOk_enter {P : Program} {f : FuncId} (h : callOk P f = true) (args : Array Value) (w : World) : (callFunc f args).run P w = .ok (.enter f args) w := by
  unfold callOk at h
  split at h
  · rename_i fn hf
    simp only [Bool.and_eq_true, Bool.not_eq_true'] at h
    obtain ⟨b, hb⟩ := Option.isSome_iff_exists.1 h.2
    have h1 : ¬ (fn.name = "runtime.NumGoroutine") := by simpa using h.1
    simp [callFunc, hf, h1, hb]
  · cases h

theorem LR.app {E : EV} {w : World} {xs ys : List DV} {us vs : Array Value} (h : LR E w xs us) (k : LR E w ys vs) : LR E w (xs ++ ys) (us ++ vs) := by
  refine ⟨by simp [h.1, k.1], fun i x v h1 h2 => ?_⟩
  rw [List.getElem?_append] at h1
  rw [Array.getElem?_append] at h2
  by_cases hi : i < xs.length
  · rw [if_pos hi] at h1; rw [if_pos (by rw [h.1]; exact hi)] at h2; exact h.2 i x v h1 h2
  · rw [if_neg hi] at h1; rw [if_neg (by rw [h.1]; exact hi), h.1] at h2; exact k.2 _ x v h1 h2

theorem AR.step {E E' : EV} {st : XS} {a : Act} {w w' : World} {M' : List DE} (hA : AR E st a w) (hH : HR E' M' w') (hX : XT ⟨w, E, st.M, []⟩ E' M' w') (dst : Option Tmp) {x : DV} {v : Value} (hx : VR E' w' x v) :
    AR E' { st with t := putD st.t dst x, M := M' } (a.put dst v) w' := by
  have hE := EE.of hA.H hX
  exact ⟨hH, put_tmps (hA.t.mono hE) dst hx, by rw [put_defers]; exact hA.d.mono hE⟩

theorem xeval_sound {P : Program} {co : Co} (hco : CoOk P co) {nr : Bool} {rnd : Option Nat} (hnr : nr = true → rnd = none) {n : Nat} {o : Oper} {E : EV} {r : Operand → DV} {M : List DE} {a : Act} {w : World} {x : XV} {Q : Exit → Act → World → Prop} {K : Act → World → Prop}
    (h : xeval P co nr o r M = some x) (hr : ∀ x, VR E w (r x) (a.eval x)) (hH : HR E M w)
    (hval : ∀ v M', x = .val v M' → ∀ E' u w', HR E' M' w' → XT ⟨w, E, M, []⟩ E' M' w' → VR E' w' v u → K (a.put o.dst u) w')
    (hput : ∀ y, x = .put y → ∀ d, DfR E w y d → K ({ a with defers := d :: a.defers }.put o.dst undef) w)
    (hpan : ∀ v M', x = .pan v M' → ∀ E' u w', HR E' M' w' → XT ⟨w, E, M, []⟩ E' M' w' → VR E' w' v u → Q (.panic [{ v := u, recovered := false }]) a w') : o.wpIn (WF rnd) n P a w K Q := by
  have hsem : (∀ c, o.op ≠ .defer c) → Oper.semAt (WF rnd).round a.eval o = execOp a.eval o := Oper.semAt_eq _ _ o
  refine ⟨fun _ _ => trivial, ?_⟩
  unfold xeval at h
  split at h
  · rename_i f args ats hop
    have hnd : ∀ c, o.op ≠ .defer c := fun c hc => by rw [hop] at hc; cases hc
    rw [hsem hnd]
    have hfv := hr f
    split at h
    · rename_i g fs cs hf
      rw [hf] at hfv
      generalize hev : a.eval f = fv at hfv
      cases hfv with
      | fn q1 q2 q3 q4 =>
        rename_i vs us
        have hargs : LR E w (fs ++ args.toList.map r ++ cs) (vs ++ args.map a.eval ++ us) := LR.app (LR.app ⟨q1, q3⟩ (map_LR _ _ args hr)) ⟨q2, q4⟩
        have hrun : callOk P g = true → (execOp a.eval o).run P w = .ok (.enter g (vs ++ args.map a.eval ++ us)) w := fun hok => by
          simp only [execOp, hop, resolve, hev, Deferred.ofValue, Sem.run_bind, Sem.run_pure, Result.andThen_ok, invoke]
          exact callOk_enter hok _ w
        have main : ∀ z M', co (.inl g) (fs ++ args.toList.map r ++ cs) M = some (z, M') → (match z with | .ret v => x = .val v M' | .pan v => x = .pan v M') →
            o.uponIn (WF rnd) n P a K Q ((execOp a.eval o).run P w) := fun z M' hcr hx => by
          obtain ⟨hok, hcall⟩ := hco.fn _ _ _ _ _ hcr
          rw [hrun hok]
          refine ⟨fun h => by simp [WF, Fence.wide] at h, callsIn_WF ((hcall E w _ hH hargs).mono ?_)⟩
          rintro e w' ⟨E', g1, g2, g3⟩
          cases z with
          | ret v => obtain ⟨u, rfl, hu⟩ := g2; exact hval v M' hx E' u w' g1 g3 hu
          | pan v => obtain ⟨u, rfl, hu⟩ := g2; exact hpan v M' hx E' u w' g1 g3 hu
        split at h
        · rename_i v hx
          injection h with h
          obtain ⟨u, e1, e2⟩ := extD_sound hx hargs
          have hrun2 : (execOp a.eval o).run P w = .ok (.value u) w := by
            simp only [execOp, hop, resolve, hev, Deferred.ofValue, Sem.run_bind, Sem.run_pure, Result.andThen_ok, invoke]
            exact e1
          rw [hrun2]
          exact hval v M h.symm E u w hH (XT.refl _ _ _ _) e2
        · split at h
          · rename_i v M' hcr; injection h with h; exact main _ _ hcr h.symm
          · rename_i v M' hcr; injection h with h; exact main _ _ hcr h.symm
          · cases h
    · rename_i id hf
      rw [hf] at hfv
      generalize hev : a.eval f = fv at hfv
      split at h
      · rename_i v M' hcr
        injection h with h
        cases hfv with
        | yld ha =>
          obtain ⟨v', hv', hy⟩ := hco.yld _ _ _ _ _ hcr
          injection hv' with hv'; subst hv'
          obtain ⟨fn, tmps, as, body, hrun, hround⟩ := hy E w (args.map a.eval) (n - 1) rnd hH (map_LR _ _ args hr) ha
          have hr1 : (execOp a.eval o).run P w = .ok (.round (E.b id) fn tmps as body) w := by
            simp only [execOp, hop, resolve, hev, Deferred.ofValue, Sem.run_bind, Sem.run_pure, Result.andThen_ok, invoke, Array.empty_append]
            exact hrun
          rw [hr1]
          refine ⟨fun h => by simp [WF, Fence.wide] at h, hround.mono ?_⟩
          rintro e w' ⟨u, E', rfl, g1, g2, g3⟩
          exact hval v M' h.symm E' u w' g1 g2 g3
      · cases h
    · cases h
  · rename_i f args ats hop
    split at h
    · rename_i hn
      have hro := hnr hn
      subst hro
      have hfv := hr f
      split at h
      · rename_i fn fs cs hf
        injection h with h
        rw [hf] at hfv
        generalize hev : a.eval f = fv at hfv
        cases hfv with
        | fn q1 q2 q3 q4 =>
          rename_i vs us
          have hrun : (Oper.semAt (WF none).round a.eval o).run P w = .ok (.defer { target := .fn fn us, args := vs ++ args.map a.eval }) w := by
            show (execOp a.eval o).run P w = _
            simp only [execOp, hop, resolve, hev, Deferred.ofValue, Sem.run_bind, Sem.run_pure, Result.andThen_ok]
          rw [hrun]
          exact hput _ h.symm _ ⟨us, _, rfl, ⟨q2, q4⟩, LR.app ⟨q1, q3⟩ (map_LR _ _ args hr)⟩
      · cases h
    · cases h
  · rename_i hnc
    have hnd : ∀ c, o.op ≠ .defer c := fun c hc => by
      rw [hc] at h
      simp [xop, vop] at h
    rw [hsem hnd]
    split at h
    · rename_i v M' hx
      injection h with h
      obtain ⟨E', w', nx, u, a1, a2, a3, a4, a5⟩ := xop_sound o hx hr hH []
      rw [a1]
      rcases a2 with rfl | ⟨rfl, rfl⟩
      · exact hval v M' h.symm E' u w' a3 a4 a5
      · exact hval v M' h.symm E' undef w' a3 a4 a5
    · rename_i v hx
      injection h with h
      obtain ⟨u, a1, a2⟩ := xop_sound o hx hr hH
      rw [a1]
      exact hpan v M h.symm E u w hH (XT.refl _ _ _ _) a2
    · cases h

theorem xstep_sound {P : Program} {co : Co} (hco : CoOk P co) {nr : Bool} {rnd : Option Nat} (hnr : nr = true → rnd = none) {n : Nat} {ops : Array Oper} {i : Nat} {E : EV} {st st' : XS} {a : Act} {w : World} {xe : XE} {Q : Exit → Act → World → Prop} {K : Act → World → Prop}
    (h : xstep P co nr ops i st = some (xe, st')) (hA : AR E st a w)
    (hno : xe = .normal → ∀ E' a' w', AR E' st' a' w' → XT ⟨w, E, st.M, []⟩ E' st'.M w' → K a' w')
    (hpan : ∀ v, xe = .pan v → ∀ E' u w', AR E' st' a w' → XT ⟨w, E, st.M, []⟩ E' st'.M w' → VR E' w' v u → Q (.panic [{ v := u, recovered := false }]) a w') :
    wpOpIn (WF rnd) n P ops Q i K a w := by
  have hr : ∀ x, VR E w (ev st.t x) (a.eval x) := fun x => ev_sound hA.t x
  unfold xstep at h
  unfold wpOpIn
  split at h
  · rename_i ho
    injection h with h; injection h with h1 h2; subst h1 h2
    simp only [ho]
    exact hno rfl E a w hA (XT.refl _ _ _ _)
  · rename_i o ho
    simp only [ho]
    split at h
    · cases h
    · rename_i hw
      rw [wantD_sound hw hA.t]
      injection h with h; injection h with h1 h2; subst h1 h2
      simp only [Bool.false_eq_true, if_false]
      exact ⟨fun _ _ => trivial, hno rfl E _ w (hA.step hA.H (XT.refl _ _ _ _) o.dst .un) (XT.refl _ _ _ _)⟩
    · rename_i hw
      rw [wantD_sound hw hA.t]
      simp only [if_true]
      split at h
      · rename_i v M' hx
        injection h with h; injection h with h1 h2; subst h2
        refine xeval_sound hco hnr hx hr hA.H (fun v1 M1 he E' u w' g1 g2 g3 => ?_) (fun y he => by cases he) (fun v1 M1 he => by cases he)
        injection he with he1 he2; subst he1 he2
        exact hno h1.symm E' _ w' (hA.step g1 g2 o.dst g3) g2
      · rename_i y hx
        injection h with h; injection h with h1 h2; subst h2
        refine xeval_sound hco hnr hx hr hA.H (fun v1 M1 he => by cases he) (fun z he d hd => ?_) (fun v1 M1 he => by cases he)
        injection he with he1; subst he1
        refine hno h1.symm E _ w ⟨hA.H, put_tmps (a := { a with defers := d :: a.defers }) hA.t o.dst .un, ?_⟩ (XT.refl _ _ _ _)
        rw [put_defers]
        exact ⟨hd, hA.d⟩
      · rename_i v M' hx
        injection h with h; injection h with h1 h2; subst h2
        refine xeval_sound hco hnr hx hr hA.H (fun v1 M1 he => by cases he) (fun y he => by cases he) (fun v1 M1 he E' u w' g1 g2 g3 => ?_)
        injection he with he1 he2; subst he1 he2
        have hE := EE.of hA.H g2
        exact hpan v h1.symm E' u w' ⟨g1, hA.t.mono hE, hA.d.mono hE⟩ g2 g3
      · cases h

end Go.Proofs.YtkcelehlilppcaaGreat
