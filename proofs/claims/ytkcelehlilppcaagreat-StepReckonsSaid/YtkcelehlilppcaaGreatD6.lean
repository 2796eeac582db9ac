/- Parts of slices; one function for all operations that only compute or read. No condition. -/
import Derived.Test.YtkcelehlilppcaaGreatD5
set_option linter.unusedVariables false
set_option linter.unusedSimpArgs false
namespace Go.Proofs.YtkcelehlilppcaaGreat
open Go.RowKit

theorem run_bound {P : Program} {w : World} {k : IntKind} {m : Int} {y : Nat} {code : BoundsCode} (h0 : 0 ≤ m) (h1 : m ≤ y) : (Instr.sliceBound (.int k m) y code).run P w = .ok m.toNat w := by
  simp [Instr.sliceBound, asIntOf, h0, h1]

/-- The bounds of a slice expression, where they are in order. -/
theorem run_bounds {P : Program} {w : World} (isS : Bool) (len cap : Nat) (lo hi : Option Value) (l h : Int) (hl : lo = none ∧ l = 0 ∨ ∃ k, lo = some (.int k l)) (hh : hi = none ∧ h = len ∨ ∃ k, hi = some (.int k h))
    (h0 : 0 ≤ l) (h1 : l ≤ h) (h2 : h ≤ cap) : (Instr.sliceBounds isS len cap lo hi none).run P w = .ok (l.toNat, h.toNat, cap) w := by
  have e1 : (h.toNat : Int) = h := by omega
  rcases hl with ⟨rfl, rfl⟩ | ⟨k, rfl⟩ <;> rcases hh with ⟨rfl, rfl⟩ | ⟨k', rfl⟩
  · simp [Instr.sliceBounds]
  · simp [Instr.sliceBounds, run_bound (by omega : 0 ≤ h) h2]
  · simp [Instr.sliceBounds, run_bound h0 h1]
  · simp [Instr.sliceBounds, run_bound (by omega : 0 ≤ h) h2, run_bound h0 (show l ≤ ((h.toNat : Nat) : Int) by omega)]

theorem oPD_sound {E : EV} {w : World} {d : PD} {m : Int} (hd : d.i = m) {o : Option DV} {o' : Option Value} {q : PD} (h : oPD d o = some q) (hi : q.isI = true)
    (ho : o = none ∧ o' = none ∨ ∃ a b, o = some a ∧ o' = some b ∧ VR E w a b) : o' = none ∧ q.i = m ∨ ∃ k, o' = some (.int k q.i) := by
  rcases ho with ⟨rfl, rfl⟩ | ⟨a, b, rfl, rfl, hab⟩
  · simp only [oPD, Option.some.injEq] at h; subst h; exact .inl ⟨rfl, hd⟩
  · cases hab with
    | pd hq =>
      simp only [oPD, Option.some.injEq] at h; subst h
      cases hq <;> simp only [PD.isI, Bool.false_eq_true] at hi
      exact .inr ⟨_, rfl⟩
    | _ => simp [oPD] at h

theorem slD_sound {P : Program} {E : EV} {w : World} {t : TypeId} {x v : DV} {lo hi : Option DV} {u : Value} {lo' hi' : Option Value} (h : slD P t x lo hi = some v) (hx : VR E w x u)
    (hlo : lo = none ∧ lo' = none ∨ ∃ a b, lo = some a ∧ lo' = some b ∧ VR E w a b) (hhi : hi = none ∧ hi' = none ∨ ∃ a b, hi = some a ∧ hi' = some b ∧ VR E w a b) :
    ∃ r, (Instr.sliceAt t u lo' hi' none).run P w = .ok r w ∧ VR E w v r := by
  unfold slD at h
  split at h
  · rename_i p
    cases hx with
    | pd hp =>
      split at h
      · rename_i ht
        split at h
        · rename_i l hh hl hhe
          obtain ⟨hc, h2⟩ := gd_some h; subst h2
          obtain ⟨hc1, hc2, hc3, hc4, hc5, hc6⟩ := hc
          have hl' := oPD_sound (m := 0) rfl hl hc2 hlo
          have hh' := oPD_sound (m := p.s.length) rfl hhe hc3 hhi
          cases hp <;> simp only [PD.isT, Bool.false_eq_true] at hc1
          rename_i s
          simp only [PD.s] at hc6 hh' ⊢
          refine ⟨.string ((⟨⟨s⟩⟩ : ByteArray).extract l.i.toNat hh.i.toNat), ?_, ?_⟩
          · have hb := run_bounds (P := P) (w := w) false s.length s.length lo' hi' l.i hh.i hl' hh' hc4 hc5 hc6
            have hb' : (Instr.sliceBounds false (⟨⟨s⟩⟩ : ByteArray).size (⟨⟨s⟩⟩ : ByteArray).size lo' hi' none).run P w = .ok (l.i.toNat, hh.i.toNat, s.length) w := hb
            simp only [Instr.sliceAt, Instr.slice, Sem.run_bind, run_und ht, Result.andThen_ok, Option.isSome_none, Bool.false_eq_true, if_false, Sem.run_pure, hb']
          · have he : (⟨⟨s⟩⟩ : ByteArray).extract l.i.toNat hh.i.toNat = ⟨⟨(s.drop l.i.toNat).take (hh.i.toNat - l.i.toNat)⟩⟩ := by
              apply ByteArray.ext
              apply Array.toList_inj.1
              have := Lib.extract_toList ⟨⟨s⟩⟩ l.i.toNat hh.i.toNat
              rw [ByteArray.toList_eq] at this
              exact this
            rw [he]; exact .pd (.str _)
        · cases h
      · rename_i e ht
        split at h
        · rename_i i l hh hi2 hl hhe
          obtain ⟨hc, h2⟩ := gd_some h; subst h2
          obtain ⟨hc1, hc2, hc3, hc4, hc5, hc6⟩ := hc
          have hl' := oPD_sound (m := 0) rfl hl hc2 hlo
          have hh' := oPD_sound (m := p.rs.length) rfl hhe hc3 hhi
          cases hp <;> simp only [PD.isS, Bool.false_eq_true, decide_eq_true_eq] at hc1
          · simp only [PD.rs, List.length_nil] at hc6 hh'
            have e0 : l.i.toNat = 0 := by omega
            have e1 : hh.i.toNat = 0 := by omega
            have hb := run_bounds (P := P) (w := w) true 0 0 lo' hi' l.i hh.i hl' hh' hc4 hc5 hc6
            rw [e0, e1] at hb
            refine ⟨.slice none 0 0, ?_, .pd .nl⟩
            simp only [Instr.sliceAt, Instr.slice, Sem.run_bind, run_und ht, Result.andThen_ok, hb, run_size hi2]
            rfl
          · rename_i k rs b off cap uu hcap hm hcc huu
            subst hc1
            simp only [PD.rs] at hc6 hh'
            have hlen : ((rs.drop l.i.toNat).take (hh.i.toNat - l.i.toNat)).length = hh.i.toNat - l.i.toNat := by simp; omega
            have hget : ∀ j, j < hh.i.toNat - l.i.toNat → ((rs.drop l.i.toNat).take (hh.i.toNat - l.i.toNat)).getD j [] = rs.getD (j + l.i.toNat) [] := fun j hj => by
              rw [List.getD_eq_getElem?_getD, List.getElem?_take, if_pos hj, List.getElem?_drop, List.getD_eq_getElem?_getD, Nat.add_comm]
            have hb := run_bounds (P := P) (w := w) true rs.length cap lo' hi' l.i hh.i hl' hh' hc4 hc5 (by omega)
            have key : ∀ (base : Nat), (base = off + l.i.toNat * i.size ∨ hh.i.toNat - l.i.toNat = 0) → VR E w (.pd (PD.cut l.i.toNat hh.i.toNat (.sl i.size rs))) (.slice (some ⟨b, base, none⟩) (hh.i.toNat - l.i.toNat) (cap - l.i.toNat)) := fun base hbase => by
              have hsl := PR.sl (S := E.S) (w := w) (k := i.size) (rs := (rs.drop l.i.toNat).take (hh.i.toNat - l.i.toNat)) (b := b) (off := base) (cap := cap - l.i.toNat) (fun j a => uu (j + l.i.toNat) a) (by omega) (by omega) (fun j a hj ha => ?_) (fun j a hj ha => by
                rw [hlen] at hj; rw [hget j hj]; exact huu _ _ (by omega) ha)
              · rw [hlen] at hsl; exact .pd hsl
              rw [hlen] at hj
              rcases hbase with rfl | h0
              · have := hcc (j + l.i.toNat) a (by omega) ha
                rw [show off + l.i.toNat * i.size + (j * i.size + a) = off + ((j + l.i.toNat) * i.size + a) by rw [Nat.add_mul]; omega]
                exact this
              · omega
            by_cases hcl : cap = l.i.toNat
            · subst hcl
              refine ⟨.slice (some ⟨b, off, none⟩) (hh.i.toNat - l.i.toNat) (l.i.toNat - l.i.toNat), ?_, key off (.inr (by omega))⟩
              simp only [Instr.sliceAt, Instr.slice, Sem.run_bind, run_und ht, Result.andThen_ok, hb, run_size hi2, if_true, Sem.run_pure]
            · refine ⟨.slice (some ⟨b, off + l.i.toNat * i.size, none⟩) (hh.i.toNat - l.i.toNat) (cap - l.i.toNat), ?_, key _ (.inl rfl)⟩
              simp only [Instr.sliceAt, Instr.slice, Sem.run_bind, run_und ht, Result.andThen_ok, hb, run_size hi2, hcl, if_false, Option.map_some, add_off, Sem.run_pure]
        · cases h
      · cases h
  · cases h

/-! ### All of them -/
def ocv (r : Operand → DV) : Option Operand → Option DV | none => none | some x => some (r x)

def vop (P : Program) (M : List DE) (r : Operand → DV) : Op → Option DV
  | .move x | .assign x => some (r x)
  | .load t x => ldD P M t (r x)
  | .fieldAddr s x f => faD P s (r x) f
  | .indexAddr t x y => iaD P M t (r x) (r y)
  | .index t x y => ixD P t (r x) (r y)
  | .field t x f => fdD P t (r x) f
  | .extract x i => exD (r x) i
  | .binOp op t x y _ => boD P op t (r x) (r y)
  | .unOp op _ x => unD op (r x)
  | .convert s d x => coD P s d (r x)
  | .nilCheck x => ncD (r x)
  | .makeFunc f fs cs => some (.fn f (fs.toList.map r) (cs.toList.map r))
  | .makeInterface t x => match P.underlying t with | some (.interface _) => none | some _ => some (.ifc t (r x)) | none => none
  | .build t parts => buD P t (parts.toList.map fun p => (p.1, r p.2))
  | .slice t x lo hi none => slD P t (r x) (ocv r lo) (ocv r hi)
  | .call { callee := .builtin .len, args := ⟨[x]⟩, argTypes := ⟨[t]⟩ } => lnD P M t (r x)
  | _ => none

theorem map_LR {E : EV} {w : World} (r : Operand → DV) (ρ : Operand → Value) (xs : Array Operand) (h : ∀ x, VR E w (r x) (ρ x)) : LR E w (xs.toList.map r) (xs.map ρ) :=
  ⟨by simp, fun i x v h1 h2 => by
    simp only [List.getElem?_map, Array.getElem?_toList, Array.getElem?_map] at h1 h2
    cases hx : xs[i]? with
    | none => simp [hx] at h1
    | some y => simp only [hx, Option.map_some, Option.some.injEq] at h1 h2; rw [← h1, ← h2]; exact h y⟩

theorem vop_sound {P : Program} {E : EV} {w : World} {M : List DE} {r : Operand → DV} {ρ : Operand → Value} (o : Oper) {v : DV} (h : vop P M r o.op = some v)
    (hr : ∀ x, VR E w (r x) (ρ x)) (hH : HR E M w) : ∃ u, (execOp ρ o).run P w = .ok (.value u) w ∧ VR E w v u := by
  obtain ⟨dst, op, ty, pos, after, guard⟩ := o
  have wrap : ∀ (s : Sem Value), (∃ u, s.run P w = .ok u w ∧ VR E w v u) → ∃ u, (do pure (Next.value (← s)) : Sem Next).run P w = .ok (.value u) w ∧ VR E w v u := fun s ⟨u, h1, h2⟩ => ⟨u, by simp [h1], h2⟩
  simp only at h
  unfold vop at h
  split at h
  · injection h with h2; subst h2; exact ⟨_, rfl, hr _⟩
  · injection h with h2; subst h2; exact ⟨_, rfl, hr _⟩
  · exact wrap _ (ldD_sound h (hr _) hH)
  · exact wrap _ (faD_sound h (hr _))
  · exact wrap _ (iaD_sound h (hr _) (hr _) hH)
  · exact wrap _ (ixD_sound h (hr _) (hr _))
  · exact wrap _ (fdD_sound h (hr _))
  · exact wrap _ (exD_sound h (hr _))
  · exact wrap _ (boD_sound _ _ h (hr _) (hr _))
  · exact wrap _ (unD_sound h (hr _))
  · exact wrap _ (coD_sound h (hr _))
  · rename_i x
    have hx := hr x
    unfold ncD at h
    split at h
    all_goals first
      | (injection h with h2; subst h2
         rename_i he
         rw [he] at hx
         have hx' := hx
         cases hx
         rename_i hv
         exact ⟨_, by simp only [execOp]; rw [← hv]; rfl, hv ▸ hx'⟩)
      | (injection h with h2; subst h2
         rename_i he
         rw [he] at hx
         generalize hρ : ρ x = u at hx
         refine ⟨u, ?_, hx⟩
         simp only [execOp, hρ]
         cases hx <;> rfl)
      | cases h
  · injection h with h2; subst h2
    exact wrap _ ⟨_, rfl, .fn (map_LR r ρ _ hr).1 (map_LR r ρ _ hr).1 (map_LR r ρ _ hr).2 (map_LR r ρ _ hr).2⟩
  · split at h
    · cases h
    · rename_i d hne ht
      injection h with h2; subst h2
      refine wrap _ ⟨_, ?_, .ifc (hr _)⟩
      simp only [Instr.makeInterface, Sem.run_bind, run_und ht, Result.andThen_ok]
      cases d <;> first | rfl | (rename_i ms; exact absurd rfl (hne ms))
    · cases h
  · rename_i t parts
    refine wrap _ (buD_sound h _ (by simp) fun q x y hx hy => ?_)
    simp only [List.getElem?_map, Array.getElem?_toList, Array.getElem?_map] at hx hy
    cases hp : parts[q]? with
    | none => simp [hp] at hx
    | some z => simp only [hp, Option.map_some, Option.some.injEq] at hx hy; rw [← hx, ← hy]; exact ⟨rfl, hr _⟩
  · rename_i t x lo hi
    refine wrap _ (slD_sound h (hr _) ?_ ?_)
    · cases lo with
      | none => exact .inl ⟨rfl, rfl⟩
      | some y => exact .inr ⟨_, _, rfl, rfl, hr y⟩
    · cases hi with
      | none => exact .inl ⟨rfl, rfl⟩
      | some y => exact .inr ⟨_, _, rfl, rfl, hr y⟩
  · rename_i x t
    obtain ⟨u, h1, h2⟩ := lnD_sound (ty := ty) h (hr _) hH
    refine ⟨u, ?_, h2⟩
    simp only [execOp, resolve, Sem.run_bind, Sem.run_pure, Result.andThen_ok, invoke, builtin, List.map_toArray, List.map_cons, List.map_nil, h1]
  · cases h

end Go.Proofs.YtkcelehlilppcaaGreat
