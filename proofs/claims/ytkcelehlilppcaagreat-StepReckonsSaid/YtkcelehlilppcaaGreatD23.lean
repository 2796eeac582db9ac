/- Ranges over functions. No condition. -/
import Derived.Test.YtkcelehlilppcaaGreatD22
set_option linter.unusedVariables false
set_option linter.unusedSimpArgs false
namespace Go.Proofs.YtkcelehlilppcaaGreat
open Go.RowKit Go.MapKept

def isBusy : LoopState → Bool | .busy => true | _ => false

def xrgo (co : Co) (f : FuncId) (fs cs : List DV) (ps : Array Tmp) (as body : Code) (st : XS) (M1 : List DE) (d : Nat) (mk : List XD) : Option (XE × XS) :=
  match co (.inl f) (fs ++ [.yld M1.length] ++ cs) (M1 ++ [.loop st.t ps as body d .ready none]) with
  | some (.ret _, M3) =>
    match M3[M1.length]? with
    | some (.loop ts2 ps2 as2 body2 d2 s2 pend2) =>
      if isBusy s2 then none else
      match pend2 with
      | none => some (.normal, ⟨st.t, M3.set M1.length (.loop ts2 ps2 as2 body2 d2 .exhausted pend2), mk ++ st.d⟩)
      | some .ret => some (.ret, ⟨st.t, M3.set M1.length (.loop ts2 ps2 as2 body2 d2 .exhausted pend2), mk ++ st.d⟩)
      | some (.exit j) => some (.exit j, ⟨st.t, M3.set M1.length (.loop ts2 ps2 as2 body2 d2 .exhausted pend2), mk ++ st.d⟩)
      | _ => none
    | _ => none
  | some (.pan v, M3) => some (.pan v, ⟨st.t, M3, mk ++ st.d⟩)
  | none => none

def xrange (co : Co) : Xr := fun ro g ps as body st =>
  match ev st.t g with
  | .fn (.func f) fs cs =>
    match ro with
    | none => xrgo co f fs cs ps as body st (st.M ++ [.dfr true]) st.M.length [.mark st.M.length]
    | some l => match st.M[l]? with | some (.loop _ _ _ _ d _ _) => xrgo co f fs cs ps as body st st.M d [] | _ => none
  | _ => none

theorem DfRs.app {E : EV} {w : World} : ∀ {xs ys : List XD} {ds es : List Deferred}, DfRs E w xs ds → DfRs E w ys es → DfRs E w (xs ++ ys) (ds ++ es)
  | [], _, [], _, _, h => h
  | x :: xs, ys, d :: ds, es, h, k => ⟨h.1, DfRs.app h.2 k⟩
  | [], _, _ :: _, _, h, _ => h.elim
  | _ :: _, _, [], _, h, _ => h.elim

theorem xrgo_sound {P : Program} {co : Co} (hco : CoOk P co) {f : FuncId} {fs cs : List DV} {ps : Array Tmp} {as body : Code} {st : XS} {M1 : List DE} {d : Nat} {mk : List XD} {xe : XE} {st' : XS}
    (h : xrgo co f fs cs ps as body st M1 d mk = some (xe, st')) {E E1 : EV} {a : Act} {w w1 : World} {n : Nat} {rnd : Option Nat} (hA : AR E st a w) (hH1 : HR E1 M1 w1) (hX1 : XT ⟨w, E, st.M, []⟩ E1 M1 w1) (hd : E1.al d)
    {mark : List Deferred} (hmk : DfRs E1 w1 mk mark) (fn : FuncId) {vs us : Array Value} (hfs : LR E w fs vs) (hcs : LR E w cs us) :
    let w2 := w1.alloc (.loop { state := .ready, pending := none, fn, tmps := a.tmps, params := ps, assign := as, body, defers := E1.b d })
    callOk P f = true ∧ CallsIn (WF rnd) (n - 1) P f (vs ++ #[.func (.yield w1.heap.size) #[] #[]] ++ us) w2
      (rangePost (WF rnd) n P w1.heap.size (fun e a' w' => TR E st.M w xe st' e a' w') { a with defers := mark ++ a.defers }) := by
  intro w2
  have hE1 := EE.of hA.H hX1
  have hst := push_step hH1 0 0 (o := .loop st.t ps as body d .ready none) (.loop { state := .ready, pending := none, fn, tmps := a.tmps, params := ps, assign := as, body, defers := E1.b d }) [] trivial
    fun hE => ⟨fn, a.tmps, by rw [add_b, alloc_new, hE.b _ hd], hA.t.mono (hE1.trans hE), hE.al _ hd⟩
  obtain ⟨s1, s2, s3⟩ := hst
  have hal := add_al E1 M1.length w1.heap.size 0 0
  have hbl := add_b E1 M1.length w1.heap.size 0 0
  generalize hE2 : E1.add M1.length w1.heap.size 0 0 = E2 at s1 s2 s3 hal hbl
  have hx2 := hX1.trans s2
  have hEE2 := hE1.trans s3
  have hargs : LR E2 w2 (fs ++ [.yld M1.length] ++ cs) (vs ++ #[.func (.yield w1.heap.size) #[] #[]] ++ us) := by
    refine LR.app (LR.app (hfs.mono hEE2) ⟨rfl, fun i x v h1 h2 => ?_⟩) (hcs.mono hEE2)
    cases i with
    | zero => simp at h1 h2; subst h1 h2; rw [← hbl]; exact .yld hal
    | succ i => simp at h1
  unfold xrgo at h
  have hdef : ∀ {E' : EV} {w' : World}, EE E2 E' w2 w' → DfRs E' w' (mk ++ st.d) (mark ++ a.defers) := fun hE => DfRs.app ((hmk.mono s3).mono hE) ((hA.d.mono hEE2).mono hE)
  split at h
  · rename_i rv M3 hcr
    obtain ⟨hok, hcall⟩ := hco.fn _ _ _ _ _ hcr
    refine ⟨hok, callsIn_WF ((hcall E2 w2 _ s1 hargs).mono ?_)⟩
    rintro e w3 ⟨E3, g1, ⟨u, rfl, hu⟩, g3⟩
    have hE3 := EE.of s1 g3
    have hb3 : E3.b M1.length = w1.heap.size := (hE3.b _ hal).trans hbl
    split at h
    · rename_i ts2 ps2 as2 body2 d2 s2' pend2 hM3
      split at h
      · cases h
      · rename_i hbusy
        obtain ⟨r3, hr3, hs3, hp3, _, _, _, _, hup⟩ := loop_step g1 hM3
        obtain ⟨v1, v2, v3⟩ := hup .exhausted pend2
        rw [hb3] at hr3 v1 v2 v3
        have hend : (Instr.endLoop w1.heap.size).run P w3 = .ok pend2 { w3 with heap := w3.heap.setIfInBounds w1.heap.size (.loop { r3 with state := .exhausted, pending := pend2 }) } := by
          have hnb : (r3.state == .busy) = false := by rw [hs3]; cases s2' <;> first | rfl | exact absurd rfl hbusy
          have hpe : ({ r3 with state := .exhausted } : Loop) = { r3 with state := .exhausted, pending := pend2 } := by rw [← hp3]
          simp only [Instr.endLoop, Sem.run_bind, getLoop_run hr3, Result.andThen_ok, hnb, Bool.false_eq_true, if_false, sobj _ hr3, Sem.run_pure, hp3, hpe]
        have hA4 : AR E3 ⟨st.t, M3.set M1.length (.loop ts2 ps2 as2 body2 d2 .exhausted pend2), mk ++ st.d⟩ { a with defers := mark ++ a.defers } { w3 with heap := w3.heap.setIfInBounds w1.heap.size (.loop { r3 with state := .exhausted, pending := pend2 }) } :=
          ⟨v1, ((hA.t.mono hEE2).mono hE3).mono v3, (hdef hE3).mono v3⟩
        have hX4 := (hx2.trans g3).trans v2
        refine ⟨pend2, _, hend, ?_⟩
        split at h
        · injection h with h; injection h with h1 h2; subst h1 h2
          exact ⟨E3, hA4, hX4, rfl⟩
        · injection h with h; injection h with h1 h2; subst h1 h2
          exact wpIn_ret ⟨E3, hA4, hX4, rfl⟩
        · injection h with h; injection h with h1 h2; subst h1 h2
          exact wpIn_exit ⟨E3, hA4, hX4, rfl⟩
        · cases h
    · cases h
  · rename_i v M3 hcr
    obtain ⟨hok, hcall⟩ := hco.fn _ _ _ _ _ hcr
    refine ⟨hok, callsIn_WF ((hcall E2 w2 _ s1 hargs).mono ?_)⟩
    rintro e w3 ⟨E3, g1, ⟨u, rfl, hu⟩, g3⟩
    injection h with h; injection h with h1 h2; subst h1 h2
    have hE3 := EE.of s1 g3
    exact ⟨E3, ⟨g1, (hA.t.mono hEE2).mono hE3, hdef hE3⟩, hx2.trans g3, u, rfl, hu⟩
  · cases h

theorem xrange_sound {P : Program} {co : Co} (hco : CoOk P co) : XrOk P (xrange co) := by
  intro ro g ps as body st xe st' h E a w n rnd hrn hA
  unfold xrange at h
  split at h
  · rename_i f fs cs hf
    have hfv := ev_sound hA.t g
    rw [hf] at hfv
    generalize hev : a.eval g = fv at hfv
    cases hfv with
    | fn q1 q2 q3 q4 =>
      rename_i vs us
      refine wpIn_rangeFunc fun fn _ => ?_
      have fin : ∀ (M1 : List DE) (d : Nat) (mk : List XD) (E1 : EV) (w1 : World) (mark : List Deferred), xrgo co f fs cs ps as body st M1 d mk = some (xe, st') → HR E1 M1 w1 → XT ⟨w, E, st.M, []⟩ E1 M1 w1 → E1.al d → DfRs E1 w1 mk mark →
          (Instr.enterLoop fn a.tmps ps as body (WF rnd).round).run P w = .ok (w1.heap.size, mark) (w1.alloc (.loop { state := .ready, pending := none, fn, tmps := a.tmps, params := ps, assign := as, body, defers := E1.b d })) →
          ∃ (l : Nat) (mark : List Deferred) (w₁ : World) (d : Deferred) (w₁' : World) (f : FuncId) (args : Array Value) (w₂ : World),
            (Instr.enterLoop fn a.tmps ps as body (WF rnd).round).run P w = .ok (l, mark) w₁ ∧ (resolve a.eval (rangeCall g l) 0).run P w₁ = .ok d w₁' ∧ (∀ f', Target.leads P w₁' d.target d.args = some f' → (WF rnd).fn f') ∧
            (invoke d.target d.args).run P w₁' = .ok (.enter f args) w₂ ∧ ((WF rnd).depth.isSome = true → 1 ≤ n) ∧
            CallsIn (WF rnd) (n - 1) P f args w₂ (rangePost (WF rnd) n P l (fun e a' w' => TR E st.M w xe st' e a' w') { a with defers := mark ++ a.defers }) := fun M1 d mk E1 w1 mark hgo hH1 hX1 hd hmk henter => by
        obtain ⟨hok, hcall⟩ := xrgo_sound (P := P) (n := n) (rnd := rnd) hco hgo hA hH1 hX1 hd hmk fn ⟨q1, q3⟩ ⟨q2, q4⟩
        refine ⟨_, mark, _, { target := .fn (.func f) us, args := vs ++ #[.func (.yield w1.heap.size) #[] #[]] }, _, f, _, _, henter, ?_, fun _ _ => trivial, callOk_enter hok _ _, fun h => by simp [WF, Fence.wide] at h, hcall⟩
        simp only [resolve, rangeCall, hev, List.map_toArray, List.map_cons, List.map_nil]
        rfl
      split at h
      · have hrn' : rnd = none := hrn
        subst hrn'
        have hst := push_step hA.H 0 0 (o := .dfr true) (.deferred (some [])) [] trivial fun hE => by
          show (w.alloc (.deferred (some []))).heap[(E.add st.M.length w.heap.size 0 0).b st.M.length]? = _
          rw [add_b, alloc_new]; rfl
        have hal := add_al E st.M.length w.heap.size 0 0
        have hbl := add_b E st.M.length w.heap.size 0 0
        refine fin _ _ _ _ _ [{ target := .collected w.heap.size, args := #[] }] h hst.1 hst.2.1 hal ⟨⟨by rw [hbl], hal⟩, trivial⟩ ?_
        rw [hbl]
        simp [Instr.enterLoop, WF, Fence.wide]
      · rename_i l
        obtain ⟨hl1, hl2⟩ := hrn
        split at h
        · rename_i ts0 ps0 as0 body0 d s0 pend0 hM
          obtain ⟨fn0, tmps0, h1, h2, h3⟩ := hA.H.objs _ _ hM
          refine fin st.M d [] E w [] h hA.H (XT.refl _ _ _ _) h3 trivial ?_
          simp [Instr.enterLoop, WF, hl2, getLoop_run h1]
        · cases h
  · cases h

end Go.Proofs.YtkcelehlilppcaaGreat
