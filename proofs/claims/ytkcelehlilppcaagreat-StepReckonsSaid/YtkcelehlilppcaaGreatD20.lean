/- Deferred functions that may recover. No condition. -/
import Derived.Test.YtkcelehlilppcaaGreatD19
set_option linter.unusedVariables false
set_option linter.unusedSimpArgs false
namespace Go.Proofs.YtkcelehlilppcaaGreat
open Go.RowKit Go.MapKept

def isRec : Op → Bool | .call c => (match c.callee with | .builtin .recover => true | _ => false) | _ => false

def xstepS (P : Program) (ops : Array Oper) (i : Nat) (st : XS) (u : XU) : Option (XS × XU) :=
  match ops[i]? with
  | none => some (st, u)
  | some o =>
    match wantD ops st.t o with
    | none => none
    | some false => some ({ st with t := putD st.t o.dst .un }, u)
    | some true =>
      if isRec o.op then
        match u with
        | .pan v => some ({ st with t := putD st.t o.dst v }, .got v)
        | u => some ({ st with t := putD st.t o.dst .ni }, u)
      else
        match xop P st.M (ev st.t) o.op with
        | some (.val v M') => some ({ st with t := putD st.t o.dst v, M := M' }, u)
        | _ => none

def xopsS (P : Program) (ops : Array Oper) : List Nat → XS → XU → Option (XS × XU)
  | [], st, u => some (st, u)
  | i :: l, st, u => match xstepS P ops i st u with | some (st', u') => xopsS P ops l st' u' | none => none

/-- What has come about, the frame below with it. -/
def TRS (E : EV) (M : List DE) (w : World) (c₀ : Frame) (cs : List Frame) (xe : XE) (st' : XS) (u' : XU) (e : Exit) (a' : Act) (cs' : List Frame) (w' : World) : Prop :=
  ∃ E' m', AR E' st' a' w' ∧ XT ⟨w, E, M, []⟩ E' st'.M w' ∧ ER E' w' xe e ∧ UR E' w' u' m' ∧ cs' = { c₀ with mode := m' } :: cs

theorem TRS.trans {E E1 : EV} {st st1 : XS} {w w1 : World} {c₀ : Frame} {cs : List Frame} (hX : XT ⟨w, E, st.M, []⟩ E1 st1.M w1) {xe : XE} {st' : XS} {u' : XU} {e : Exit} {a' : Act} {cs' : List Frame} {w' : World}
    (h : TRS E1 st1.M w1 c₀ cs xe st' u' e a' cs' w') : TRS E st.M w c₀ cs xe st' u' e a' cs' w' := by
  obtain ⟨E', m', h1, h2, h3⟩ := h
  exact ⟨E', m', h1, hX.trans h2, h3⟩

theorem isRec_run {P : Program} {w : World} {ρ : Operand → Value} {o : Oper} (h : isRec o.op = true) : (execOp ρ o).run P w = .ok .recover w := by
  obtain ⟨dst, op, ty, pos, after, guard⟩ := o
  simp only at h
  unfold isRec at h
  split at h
  · rename_i c
    split at h
    · rename_i hc
      simp [execOp, resolve, hc, invoke, builtin]
    · cases h
  · cases h

theorem recoverD_pan (c₀ : Frame) (cs : List Frame) (v : Value) : recoverD ({ c₀ with mode := .panicking [{ v, recovered := false }] } :: cs) = some (v, { c₀ with mode := .panicking [{ v, recovered := true }] } :: cs) := rfl

theorem xopsS_sound {P : Program} {ops : Array Oper} {n : Nat} {c₀ : Frame} {cs : List Frame} {Q : Exit → Act → List Frame → World → Prop} : ∀ (l : List Nat) (st : XS) (u : XU) (st' : XS) (u' : XU), xopsS P ops l st u = some (st', u') →
    ∀ (E : EV) (a : Act) (w : World) (m : FrameMode), AR E st a w → UR E w u m → (∀ e a' cs' w', TRS E st.M w c₀ cs .normal st' u' e a' cs' w' → Q e a' cs' w') → wpOpsSIn (WF none) n P ops Q l a ({ c₀ with mode := m } :: cs) w
  | [], st, u, st', u', h, E, a, w, m, hA, hu, hQ => by
    injection h with h; injection h with h1 h2; subst h1 h2
    exact hQ _ _ _ _ ⟨E, m, hA, XT.refl _ _ _ _, rfl, hu, rfl⟩
  | i :: l, st, u, st', u', h, E, a, w, m, hA, hu, hQ => by
    have hr : ∀ x, VR E w (ev st.t x) (a.eval x) := fun x => ev_sound hA.t x
    unfold xopsS at h
    split at h
    · rename_i st1 u1 h1
      have next : ∀ (E1 : EV) (a1 : Act) (w1 : World) (m1 : FrameMode), AR E1 st1 a1 w1 → XT ⟨w, E, st.M, []⟩ E1 st1.M w1 → UR E1 w1 u1 m1 → wpOpsSIn (WF none) n P ops Q l a1 ({ c₀ with mode := m1 } :: cs) w1 := fun E1 a1 w1 m1 hA1 hX hu1 =>
        xopsS_sound l st1 u1 st' u' h E1 a1 w1 m1 hA1 hu1 fun e a' cs' w' ht => hQ _ _ _ _ (TRS.trans hX ht)
      unfold xstepS at h1
      unfold wpOpsSIn
      split at h1
      · rename_i ho
        injection h1 with h1; injection h1 with h2 h3; subst h2 h3
        simp only [ho]
        exact next E a w m hA (XT.refl _ _ _ _) hu
      · rename_i o ho
        simp only [ho]
        refine ⟨fun _ _ => trivial, ?_⟩
        split at h1
        · cases h1
        · rename_i hw
          injection h1 with h1; injection h1 with h2 h3; subst h2 h3
          rw [wantD_sound hw hA.t]
          simp only [Bool.false_eq_true, if_false]
          exact next E _ w m (hA.step hA.H (XT.refl _ _ _ _) o.dst .un) (XT.refl _ _ _ _) hu
        · rename_i hw
          rw [wantD_sound hw hA.t]
          simp only [if_true]
          split at h1
          · rename_i hrec
            rw [isRec_run hrec]
            simp only
            split at h1
            · rename_i v
              injection h1 with h1; injection h1 with h2 h3; subst h2 h3
              obtain ⟨z, rfl, hz⟩ := hu
              rw [recoverD_pan]
              exact next E _ w _ (hA.step hA.H (XT.refl _ _ _ _) o.dst hz) (XT.refl _ _ _ _) ⟨z, rfl, hz⟩
            · rename_i u0 hne
              injection h1 with h1; injection h1 with h2 h3; subst h2 h3
              have hnone : recoverD ({ c₀ with mode := m } :: cs) = none := by
                cases u with
                | ret => cases hu; rfl
                | pan v => exact absurd rfl (hne v)
                | got v => obtain ⟨z, rfl, _⟩ := hu; rfl
              rw [hnone]
              exact next E _ w m (hA.step hA.H (XT.refl _ _ _ _) o.dst .ni) (XT.refl _ _ _ _) hu
          · split at h1
            · rename_i v M' hx
              injection h1 with h1; injection h1 with h2 h3; subst h2 h3
              obtain ⟨E', w', nx, z, a1, a2, a3, a4, a5⟩ := xop_sound o hx hr hA.H []
              rw [a1]
              have hE := EE.of hA.H a4
              rcases a2 with rfl | ⟨rfl, rfl⟩
              · exact next E' _ w' m (hA.step a3 a4 o.dst a5) a4 (hu.mono hE)
              · exact next E' _ w' m (hA.step a3 a4 o.dst a5) a4 (hu.mono hE)
            · cases h1
    · cases h

theorem wpSIn_mono {F : Fence} {n : Nat} {P : Program} {c : Code} {Q Q' : Exit → Act → List Frame → World → Prop} {a : Act} {cs : List Frame} {w : World} (h : c.wpSIn F n P Q a cs w) (hq : ∀ e a cs w, Q e a cs w → Q' e a cs w) : c.wpSIn F n P Q' a cs w :=
  fun b k hb hr hF hroom => let ⟨e, a', cs', w', l, q, r⟩ := h b k hb hr hF hroom; ⟨e, a', cs', w', l, hq _ _ _ _ q, r⟩

def hasRec (ops : Array Oper) : Bool := ops.any fun o => isRec o.op

def xcodeS (P : Program) (co : Co) (xd : Xd) (xr : Xr) : Nat → Code → XS → XU → Option (XE × XS × XU)
  | 0, _, _, _ => none
  | n + 1, c, st, u =>
    match c with
    | .seq x y =>
      match xcodeS P co xd xr n x st u with
      | some (.normal, st', u') => xcodeS P co xd xr n y st' u'
      | r => r
    | .cond c x y => match ev st.t c with | .pd (.bool b) => xcodeS P co xd xr n (if b then x else y) st u | _ => none
    | .region id ops draw =>
      if !draw && hasRec ops then (xopsS P ops (List.range ops.size) st u).map fun r => (.normal, r.1, r.2)
      else (xcode P co xd xr none n (.region id ops draw) st).map fun r => (r.1, r.2, u)
    | c => (xcode P co xd xr none n c st).map fun r => (r.1, r.2, u)

theorem xcodeS_sound {P : Program} {co : Co} {xd : Xd} {xr : Xr} (hco : CoOk P co) (hxd : XdOk P xd) (hxr : XrOk P xr) {k : Nat} {c₀ : Frame} {cs : List Frame} : ∀ (n : Nat) (c : Code) (st : XS) (u : XU) (xe : XE) (st' : XS) (u' : XU), xcodeS P co xd xr n c st u = some (xe, st', u') →
    ∀ (E : EV) (a : Act) (w : World) (m : FrameMode), AR E st a w → UR E w u m → c.wpSIn (WF none) k P (TRS E st.M w c₀ cs xe st' u') a ({ c₀ with mode := m } :: cs) w := by
  intro n
  induction n with
  | zero => intro c st u xe st' u' h; simp [xcodeS] at h
  | succ n ih =>
    intro c st u xe st' u' h E a w m hA hu
    have plain : ∀ c, (xcode P co xd xr none n c st).map (fun r => (r.1, r.2, u)) = some (xe, st', u') → c.wpSIn (WF none) k P (TRS E st.M w c₀ cs xe st' u') a ({ c₀ with mode := m } :: cs) w := fun c h => by
      simp only [Option.map_eq_some_iff] at h
      obtain ⟨r, hr, h2⟩ := h
      injection h2 with h2 h3; injection h3 with h3 h4; subst h2 h3 h4
      refine wpSIn_of_wpIn rfl (wpIn_mono ((xcode_sound hco hxd hxr n c st r.1 r.2 hr).1 E a w k none rfl hA) ?_)
      rintro e a1 w1 ⟨E1, g1, g2, g3⟩
      exact ⟨E1, m, g1, g2, g3, hu.mono (EE.of hA.H g2), rfl⟩
    unfold xcodeS at h
    split at h
    · rename_i x y
      split at h
      · rename_i st1 u1 h1
        refine wpSIn_seq (wpSIn_mono ((ih x st u .normal st1 u1 h1) E a w m hA hu) ?_)
        rintro e a1 cs1 w1 ⟨E1, m1, g1, g2, g3, g4, rfl⟩
        have := ER.normal g3; subst this
        exact wpSIn_mono (ih y st1 u1 xe st' u' h E1 a1 w1 m1 g1 g4) fun e a' cs' w' ht => TRS.trans g2 ht
      · rename_i r hr
        refine wpSIn_seq (wpSIn_mono ((ih x st u xe st' u' h) E a w m hA hu) ?_)
        rintro e a1 cs1 w1 ⟨E1, m1, g1, g2, g3, g4⟩
        have hne : e ≠ .normal := by
          rintro rfl
          cases xe with
          | normal => exact hr _ _ h
          | pan v => obtain ⟨u, hu, _⟩ := g3; cases hu
          | exit id => cases g3
          | ret => cases g3
        cases e <;> first | exact ⟨E1, m1, g1, g2, g3, g4⟩ | exact absurd rfl hne
    · rename_i c x y
      split at h
      · rename_i b hb
        have hv := ev_sound hA.t c
        rw [hb] at hv
        generalize hev : a.eval c = z at hv
        cases hv with
        | pd hp =>
          cases hp
          refine wpSIn_cond hev ?_
          cases b with
          | true => exact ih x st u xe st' u' (by simpa using h) E a w m hA hu
          | false => exact ih y st u xe st' u' (by simpa using h) E a w m hA hu
      · cases h
    · rename_i id ops draw
      split at h
      · rename_i hc
        simp only [Bool.and_eq_true, Bool.not_eq_true'] at hc
        obtain ⟨rfl, _⟩ := hc
        simp only [Option.map_eq_some_iff] at h
        obtain ⟨r, hr, h2⟩ := h
        injection h2 with h2 h3; injection h3 with h3 h4; subst h2 h3 h4
        exact wpSIn_region (xopsS_sound _ st u r.1 r.2 hr E a w m hA hu fun _ _ _ _ ht => ht)
      · exact plain _ h
    · exact plain _ h

end Go.Proofs.YtkcelehlilppcaaGreat
