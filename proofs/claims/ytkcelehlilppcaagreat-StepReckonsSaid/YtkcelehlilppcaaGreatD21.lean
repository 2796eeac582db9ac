/- Functions, rounds, ranges over functions. No condition. -/
import Derived.Test.YtkcelehlilppcaaGreatD20
import Derived.RangeFuncRecord
set_option linter.unusedVariables false
set_option linter.unusedSimpArgs false
namespace Go.Proofs.YtkcelehlilppcaaGreat
open Go.RowKit Go.MapKept

def xinit (fn : Func) (args : List DV) : List DV := args ++ List.replicate (fn.ntmps - args.length) .un

theorem xinit_sound {E : EV} {w : World} {fn : Func} {args : List DV} {vs : Array Value} (h : LR E w args vs) : LR E w (xinit fn args) (vs ++ Array.replicate (fn.ntmps - vs.size) undef) := by
  refine h.app ⟨by simp [h.1], fun i x v h1 h2 => ?_⟩
  rw [List.getElem?_replicate] at h1
  rw [Array.getElem?_replicate] at h2
  split at h1
  · split at h2
    · injection h1 with h1; injection h2 with h2; subst h1 h2; exact .un
    · cases h2
  · cases h1

/-- A call of a function. -/
def xfun (P : Program) (co : Co) (xd : Xd) (xr : Xr) (df : Df) (n : Nat) (f : FuncId) (args : List DV) (M : List DE) : Option (DZ × List DE) :=
  match P.funcs[f]? with
  | some fn =>
    match fn.body with
    | some c =>
      if fn.name == "runtime.NumGoroutine" then none else
      match xcode P co xd xr none n c ⟨xinit fn args, M, []⟩ with
      | some (.normal, st) => xleave P df fn st.t st.d .ret st.M
      | some (.ret, st) => xleave P df fn st.t st.d .ret st.M
      | some (.pan v, st) => xleave P df fn st.t st.d (.pan v) st.M
      | _ => none
    | none => none
  | none => none

theorem xfun_sound {P : Program} {co : Co} {xd : Xd} {xr : Xr} {df : Df} (hco : CoOk P co) (hxd : XdOk P xd) (hxr : XrOk P xr) (hdf : DfOk P df) {n : Nat} {f : FuncId} {args : List DV} {M M' : List DE} {r : DZ} (h : xfun P co xd xr df n f args M = some (r, M')) :
    callOk P f = true ∧ ∀ (E : EV) (w : World) (vs : Array Value), HR E M w → LR E w args vs → Calls P f vs w fun e w' => ∃ E', HR E' M' w' ∧ ZR E' w' r e ∧ XT ⟨w, E, M, []⟩ E' M' w' := by
  unfold xfun at h
  split at h
  · rename_i fn hf
    split at h
    · rename_i c hb
      split at h
      · cases h
      · rename_i hname
        refine ⟨by simp only [callOk, hf, hb]; simp at hname ⊢; exact hname, fun E w vs hH hL => ?_⟩
        have hA : AR E ⟨xinit fn args, M, []⟩ { tmps := vs ++ Array.replicate (fn.ntmps - vs.size) undef, defers := [] } w := ⟨hH, xinit_sound hL, trivial⟩
        have main : ∀ xe st, xcode P co xd xr none n c ⟨xinit fn args, M, []⟩ = some (xe, st) → (∀ (E1 : EV) (e : Exit) (a1 : Act) (w1 : World), AR E1 st a1 w1 → ER E1 w1 xe e →
            XT ⟨w, E, M, []⟩ E1 st.M w1 → bodyPostM (WF none) 0 P fn (fun e w' => ∃ E', HR E' M' w' ∧ ZR E' w' r e ∧ XT ⟨w, E, M, []⟩ E' M' w') e a1 w1) →
            Calls P f vs w fun e w' => ∃ E', HR E' M' w' ∧ ZR E' w' r e ∧ XT ⟨w, E, M, []⟩ E' M' w' := fun xe st hx hk => by
          have hw := (xcode_sound hco hxd hxr n c _ xe st hx).1 E _ w 0 none rfl hA
          refine callsIn_wide.1 (callsIn_of_wp_marks (F := WF none) (n := 0) hf hb trivial (wpIn_mono hw ?_) rfl)
          rintro e a1 w1 ⟨E1, g1, g2, g3⟩
          exact hk E1 e a1 w1 g1 g3 g2
        have lv : ∀ (st : XS) (u : XU) (m : FrameMode) (E1 : EV) (a1 : Act) (w1 : World), xleave P df fn st.t st.d u st.M = some (r, M') → AR E1 st a1 w1 → UR E1 w1 u m → XT ⟨w, E, M, []⟩ E1 st.M w1 →
            LeavesInM (WF none) 0 P fn a1.tmps (fun e w' => ∃ E', HR E' M' w' ∧ ZR E' w' r e ∧ XT ⟨w, E, M, []⟩ E' M' w') a1.defers m w1 := fun st u m E1 a1 w1 hl g1 hu g2 =>
          xleave_sound hdf st.d u st.M r M' hl E1 w1 a1.defers m g1.H g1.t g1.d hu fun e w' ⟨E', q1, q2, q3⟩ => ⟨E', q1, q2, g2.trans q3⟩
        split at h
        · rename_i st hx
          refine main _ st hx fun E1 e a1 w1 g1 g3 g2 => ?_
          have := ER.normal g3; subst this
          exact lv st .ret .returning E1 a1 w1 h g1 rfl g2
        · rename_i st hx
          refine main _ st hx fun E1 e a1 w1 g1 g3 g2 => ?_
          have g3' : e = .ret := g3
          subst g3'
          exact lv st .ret .returning E1 a1 w1 h g1 rfl g2
        · rename_i v st hx
          refine main _ st hx fun E1 e a1 w1 g1 g3 g2 => ?_
          obtain ⟨u, rfl, hu⟩ := g3
          exact lv st (.pan v) _ E1 a1 w1 h g1 ⟨u, rfl, hu⟩ g2
        · cases h
    · cases h
  · cases h

/-- A deferred call of a function. -/
def xdfn (P : Program) (co : Co) (xd : Xd) (xr : Xr) (n : Nat) (f : FuncId) (args : List DV) (u : XU) (M : List DE) : Option (XU × List DE) :=
  match P.funcs[f]? with
  | some fn =>
    match fn.body with
    | some c =>
      if fn.name == "runtime.NumGoroutine" then none else
      match xcodeS P co xd xr n c ⟨xinit fn args, M, []⟩ u with
      | some (.normal, st, u') => if st.d.isEmpty then (resV P st.M st.t fn).map fun _ => (u', st.M) else none
      | some (.ret, st, u') => if st.d.isEmpty then (resV P st.M st.t fn).map fun _ => (u', st.M) else none
      | _ => none
    | none => none
  | none => none

theorem xdfn_sound {P : Program} {co : Co} {xd : Xd} {xr : Xr} (hco : CoOk P co) (hxd : XdOk P xd) (hxr : XrOk P xr) (n : Nat) : DfOk P (xdfn P co xd xr n) := by
  intro g args u M u' M' h
  unfold xdfn at h
  split at h
  · rename_i fn hf
    split at h
    · rename_i c hb
      split at h
      · cases h
      · rename_i hname
        refine ⟨by simp only [callOk, hf, hb]; simp at hname ⊢; exact hname, fun E w vs m k hH hL hu => ?_⟩
        have hA : AR E ⟨xinit fn args, M, []⟩ { tmps := vs ++ Array.replicate (fn.ntmps - vs.size) undef, defers := [] } w := ⟨hH, xinit_sound hL, trivial⟩
        have main : ∀ xe st, xcodeS P co xd xr n c ⟨xinit fn args, M, []⟩ u = some (xe, st, u') → (xe = .normal ∨ xe = .ret) → (if st.d.isEmpty then (resV P st.M st.t fn).map fun _ => (u', st.M) else none) = some (u', M') →
            CallsDIn (WF none) k P g vs m w fun e m' w' => ∃ v E', e = .returned v ∧ HR E' M' w' ∧ XT ⟨w, E, M, []⟩ E' M' w' ∧ UR E' w' u' m' := fun xe st hx hxe hres => by
          refine callsDIn_of_wpSIn hf hb trivial fun c₀ cs hm => ?_
          have hc : ({ c₀ with mode := m } : Frame) = c₀ := by subst hm; rfl
          have hw := xcodeS_sound hco hxd hxr (k := k) (c₀ := c₀) (cs := cs) n c _ u xe st u' hx E _ w m hA hu
          rw [hc] at hw
          refine wpSIn_mono hw ?_
          rintro e a1 cs1 w1 ⟨E1, m1, g1, g2, g3, g4, rfl⟩
          split at hres
          · rename_i hd
            simp only [Option.map_eq_some_iff] at hres
            obtain ⟨v, hv, h2⟩ := hres
            injection h2 with h2 h3; subst h3
            obtain ⟨z, hz1, hz2⟩ := resV_sound hv g1.t g1.H
            have hd' : a1.defers = [] := by
              have hdd := g1.d
              have : st.d = [] := by simpa using hd
              rw [this] at hdd
              cases hq : a1.defers with
              | nil => rfl
              | cons => rw [hq] at hdd; exact hdd.elim
            have fin : bodyPostS P fn c₀ cs (fun e m' w' => ∃ v E', e = .returned v ∧ HR E' st.M w' ∧ XT ⟨w, E, M, []⟩ E' st.M w' ∧ UR E' w' u' m') .ret a1 ({ c₀ with mode := m1 } :: cs) w1 :=
              ⟨hd', m1, rfl, z, hz1, z, E1, rfl, g1.H, g2, g4⟩
            rcases hxe with rfl | rfl
            · have := ER.normal g3; subst this; exact fin
            · have g3' : e = .ret := g3
              subst g3'; exact fin
          · cases hres
        split at h
        · rename_i st u1 hx
          have hu1 : u1 = u' := by
            split at h
            · simp only [Option.map_eq_some_iff] at h; obtain ⟨_, _, h2⟩ := h; injection h2
            · cases h
          subst hu1
          exact main _ st hx (.inl rfl) h
        · rename_i st u1 hx
          have hu1 : u1 = u' := by
            split at h
            · simp only [Option.map_eq_some_iff] at h; obtain ⟨_, _, h2⟩ := h; injection h2
            · cases h
          subst hu1
          exact main _ st hx (.inr rfl) h
        · cases h
    · cases h
  · cases h

end Go.Proofs.YtkcelehlilppcaaGreat
