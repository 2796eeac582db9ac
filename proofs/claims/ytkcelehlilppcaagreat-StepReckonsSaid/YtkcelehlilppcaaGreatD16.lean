/- All operations of one function's own. No condition. -/
import Derived.Test.YtkcelehlilppcaaGreatD15
set_option linter.unusedVariables false
set_option linter.unusedSimpArgs false
namespace Go.Proofs.YtkcelehlilppcaaGreat
open Go.RowKit Go.MapKept

inductive XO where
  | val (v : DV) (M : List DE)
  | pan (v : DV)

def XO.of (p : DV × List DE) : XO := .val p.1 p.2

def isOwn : DV → Bool | .own _ => true | _ => false

def xop (P : Program) (M : List DE) (r : Operand → DV) : Op → Option XO
  | .store t a x => (stD P M t (r a) (r x)).map (.val .un)
  | .alloc t => (alD P M t).map .of
  | .box _ x => (bxD M (r x)).map .of
  | .buildSlice t len parts => (bsD P M t len (parts.toList.map fun p => (p.1, r p.2))).map .of
  | .makeMap _ none => (mmD M none).map .of
  | .makeSlice t l c => (msD P M t (r l) (r c)).map .of
  | .mapUpdate t m k x | .insert t m k x => (muD P M t (r m) (r k) (r x)).map (.val .un)
  | .lookup t x y ok => (lkD P M t (r x) (r y) ok).map (.val · M)
  | .range t x => (raD P M t (r x)).map .of
  | .next it false => (nxD M (r it)).map .of
  | .entry it => (enD M (r it)).map (.val · M)
  | .typeAssert x _ ty ok => (taD P (r x) ty ok).map (.val · M)
  | .pick c a b => match r c with | .pd (.bool t) => some (.val (if t then r a else r b) M) | _ => none
  | .panic x => match r x with | .ifc t v => some (.pan (.ifc t v)) | _ => none
  | .slice t x lo hi (some mx) => (c0D P M t (r x) (ocv r lo) (ocv r hi) (some (r mx))).map (.val · M)
  | .slice t x lo hi none => if isOwn (r x) then (if isZero (ocv r lo) then cuD P M t (r x) (ocv r lo) (ocv r hi) else fzD P M t (r x) (ocv r lo) (ocv r hi)).map .of else (vop P M r (.slice t x lo hi none)).map (.val · M)
  | .call { callee := .builtin .append, args := ⟨[x, y]⟩, argTypes := ⟨[t, t']⟩ } => if t = t' then (apD P M t (r x) (r y)).map .of else none
  | .call { callee := .builtin .copy, args := ⟨[x, y]⟩, argTypes := ⟨[t, _]⟩ } => (cpD P M t (r x) (r y)).map .of
  | .call { callee := .builtin .min, args := ⟨[x, y]⟩, argTypes := _ } => (mnD false (r x) (r y)).map (.val · M)
  | .call { callee := .builtin .max, args := ⟨[x, y]⟩, argTypes := _ } => (mnD true (r x) (r y)).map (.val · M)
  | op => (vop P M r op).map (.val · M)

def XOs (P : Program) (s : Sem Next) (E : EV) (w : World) (M : List DE) : XO → Prop
  | .val v M' => ∀ df, ∃ E' w' nx u, s.run P w = .ok nx w' ∧ (nx = .value u ∨ nx = .skip ∧ u = undef) ∧ HR E' M' w' ∧ XT ⟨w, E, M, df⟩ E' M' w' ∧ VR E' w' v u
  | .pan v => ∃ u, s.run P w = .halt (.panic u) w ∧ VR E w v u

theorem XOs.did {P : Program} {s : Sem Value} {E : EV} {w : World} {M M' : List DE} {v : DV} (h : Did P s E w M M' v) : XOs P (do pure (Next.value (← s))) E w M (.val v M') := fun df => by
  obtain ⟨E', w', u, h1, h2, h3, h4⟩ := h df
  exact ⟨E', w', .value u, u, by simp [h1], .inl rfl, h2, h3, h4⟩

theorem XOs.didU {P : Program} {s : Sem Unit} {E : EV} {w : World} {M M' : List DE} (h : DidU P s E w M M') : XOs P (do s; pure Next.skip) E w M (.val .un M') := fun df => by
  obtain ⟨E', w', h1, h2, h3⟩ := h df
  exact ⟨E', w', .skip, undef, by simp [h1], .inr ⟨rfl, rfl⟩, h2, h3, .un⟩

theorem XOs.pure {P : Program} {s : Sem Value} {E : EV} {w : World} {M : List DE} {v : DV} (hH : HR E M w) (h : ∃ u, s.run P w = .ok u w ∧ VR E w v u) : XOs P (do pure (Next.value (← s))) E w M (.val v M) := fun df => by
  obtain ⟨u, h1, h2⟩ := h
  exact ⟨E, w, .value u, u, by simp [h1], .inl rfl, hH, XT.refl _ _ _ _, h2⟩

theorem ocv_rel {E : EV} {w : World} {r : Operand → DV} {ρ : Operand → Value} (hr : ∀ x, VR E w (r x) (ρ x)) (o : Option Operand) : ocv r o = none ∧ o.map ρ = none ∨ ∃ a b, ocv r o = some a ∧ o.map ρ = some b ∧ VR E w a b := by
  cases o with
  | none => exact .inl ⟨rfl, rfl⟩
  | some y => exact .inr ⟨_, _, rfl, rfl, hr y⟩

theorem xop_sound {P : Program} {E : EV} {w : World} {M : List DE} {r : Operand → DV} {ρ : Operand → Value} (o : Oper) {x : XO} (h : xop P M r o.op = some x)
    (hr : ∀ x, VR E w (r x) (ρ x)) (hH : HR E M w) : XOs P (execOp ρ o) E w M x := by
  have hv : ∀ v, vop P M r o.op = some v → XOs P (execOp ρ o) E w M (.val v M) := fun v h df => by
    obtain ⟨u, h1, h2⟩ := vop_sound o h hr hH
    exact ⟨E, w, _, u, h1, .inl rfl, hH, XT.refl _ _ _ _, h2⟩
  obtain ⟨dst, op, ty, pos, after, guard⟩ := o
  simp only at h hv
  unfold xop at h
  split at h
  · simp only [Option.map_eq_some_iff] at h
    obtain ⟨M', h1, rfl⟩ := h
    refine XOs.didU fun df => ?_
    obtain ⟨w', a1, a2, a3, _⟩ := stD_sound h1 (hr _) (hr _) hH df
    exact ⟨E, w', a1, a2, a3⟩
  · simp only [Option.map_eq_some_iff] at h
    obtain ⟨p, h1, rfl⟩ := h
    exact XOs.did (alD_sound h1 hH)
  · simp only [Option.map_eq_some_iff] at h
    obtain ⟨p, h1, rfl⟩ := h
    exact XOs.did (bxD_sound h1 (hr _) hH)
  · rename_i t len parts
    simp only [Option.map_eq_some_iff] at h
    obtain ⟨p, h1, rfl⟩ := h
    refine XOs.did (bsD_sound h1 hH _ (by simp) fun q x y hx hy => ?_)
    simp only [List.getElem?_map, Array.getElem?_toList, Array.getElem?_map] at hx hy
    cases hp : parts[q]? with
    | none => simp [hp] at hx
    | some z => simp only [hp, Option.map_some, Option.some.injEq] at hx hy; rw [← hx, ← hy]; exact ⟨rfl, hr _⟩
  · simp only [Option.map_eq_some_iff] at h
    obtain ⟨p, h1, rfl⟩ := h
    exact XOs.did (mmD_sound h1 hH)
  · simp only [Option.map_eq_some_iff] at h
    obtain ⟨p, h1, rfl⟩ := h
    exact XOs.did (msD_sound h1 (hr _) (hr _) hH)
  · simp only [Option.map_eq_some_iff] at h
    obtain ⟨p, h1, rfl⟩ := h
    exact XOs.didU (muD_sound h1 (hr _) (hr _) (hr _) hH)
  · simp only [Option.map_eq_some_iff] at h
    obtain ⟨p, h1, rfl⟩ := h
    exact XOs.didU (muD_sound h1 (hr _) (hr _) (hr _) hH)
  · simp only [Option.map_eq_some_iff] at h
    obtain ⟨p, h1, rfl⟩ := h
    exact XOs.pure hH (lkD_sound h1 (hr _) (hr _) hH)
  · simp only [Option.map_eq_some_iff] at h
    obtain ⟨p, h1, rfl⟩ := h
    exact XOs.did (raD_sound h1 (hr _) hH)
  · simp only [Option.map_eq_some_iff] at h
    obtain ⟨p, h1, rfl⟩ := h
    exact XOs.did (nxD_sound h1 (hr _) hH)
  · simp only [Option.map_eq_some_iff] at h
    obtain ⟨p, h1, rfl⟩ := h
    exact XOs.pure hH (enD_sound h1 (hr _) hH)
  · simp only [Option.map_eq_some_iff] at h
    obtain ⟨p, h1, rfl⟩ := h
    exact XOs.pure hH (taD_sound h1 (hr _))
  · rename_i c a b
    split at h
    · rename_i t ht
      injection h with h; subst h
      intro df
      have hc := hr c
      rw [ht] at hc
      generalize hρ : ρ c = u at hc
      cases hc with
      | pd hp =>
        cases hp
        refine ⟨E, w, _, if t then ρ a else ρ b, by simp [execOp, hρ, asBool], .inl rfl, hH, XT.refl _ _ _ _, ?_⟩
        cases t
        · exact hr b
        · exact hr a
    · cases h
  · rename_i y
    split at h
    · rename_i t v ht
      injection h with h; subst h
      have hc := hr y
      rw [ht] at hc
      have hc' := hc
      generalize hρ : ρ y = u at hc
      rw [hρ] at hc'
      cases hc with
      | ifc hv => exact ⟨_, by simp [execOp, hρ, Instr.panic, goPanic, Sem.run], hc'⟩
    · cases h
  · rename_i t y lo hi mx
    simp only [Option.map_eq_some_iff] at h
    obtain ⟨p, h1, rfl⟩ := h
    exact XOs.pure hH (c0D_sound h1 (hr _) (ocv_rel hr lo) (ocv_rel hr hi) (.inr ⟨_, _, rfl, rfl, hr mx⟩))
  · rename_i t y lo hi
    split at h
    · simp only [Option.map_eq_some_iff] at h
      obtain ⟨p, h1, rfl⟩ := h
      split at h1
      · exact XOs.did (cuD_sound h1 (hr _) (ocv_rel hr lo) (ocv_rel hr hi) hH)
      · exact XOs.did (fzD_sound h1 (hr _) (ocv_rel hr lo) (ocv_rel hr hi) hH)
    · simp only [Option.map_eq_some_iff] at h
      obtain ⟨p, h1, rfl⟩ := h
      exact hv _ h1
  · rename_i y z t t'
    split at h
    · rename_i he
      subst he
      simp only [Option.map_eq_some_iff] at h
      obtain ⟨p, h1, rfl⟩ := h
      have := XOs.did (apD_sound (ty := ty) h1 (hr y) (hr z) hH)
      intro df
      obtain ⟨E', w', nx, u, a1, a2⟩ := this df
      exact ⟨E', w', nx, u, by simpa [execOp, resolve, invoke, builtin] using a1, a2⟩
    · cases h
  · rename_i y z t t'
    simp only [Option.map_eq_some_iff] at h
    obtain ⟨p, h1, rfl⟩ := h
    have := XOs.did (cpD_sound (ty := ty) (t2 := t') h1 (hr y) (hr z) hH)
    intro df
    obtain ⟨E', w', nx, u, a1, a2⟩ := this df
    exact ⟨E', w', nx, u, by simpa [execOp, resolve, invoke, builtin] using a1, a2⟩
  · rename_i y z ts
    simp only [Option.map_eq_some_iff] at h
    obtain ⟨p, h1, rfl⟩ := h
    obtain ⟨u, a1, a2⟩ := mnD_sound (P := P) false h1 (hr y) (hr z)
    exact fun df => ⟨E, w, .value u, u, by simp at a1; simp [execOp, resolve, invoke, builtin, Builtin.min_, a1], .inl rfl, hH, XT.refl _ _ _ _, a2⟩
  · rename_i y z ts
    simp only [Option.map_eq_some_iff] at h
    obtain ⟨p, h1, rfl⟩ := h
    obtain ⟨u, a1, a2⟩ := mnD_sound (P := P) true h1 (hr y) (hr z)
    exact fun df => ⟨E, w, .value u, u, by simp at a1; simp [execOp, resolve, invoke, builtin, Builtin.max_, a1], .inl rfl, hH, XT.refl _ _ _ _, a2⟩
  · simp only [Option.map_eq_some_iff] at h
    obtain ⟨p, h1, rfl⟩ := h
    exact hv _ h1

end Go.Proofs.YtkcelehlilppcaaGreat
