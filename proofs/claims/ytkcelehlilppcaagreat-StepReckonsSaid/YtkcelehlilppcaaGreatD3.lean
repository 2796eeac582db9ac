/- Operations that only compute or read, and that the model's come to the same. No condition. -/
import Derived.Test.YtkcelehlilppcaaGreatD2
set_option linter.unusedVariables false
set_option linter.unusedSimpArgs false
namespace Go.Proofs.YtkcelehlilppcaaGreat
open Go.RowKit

def PD.isI : PD → Bool | .int _ _ => true | _ => false
def PD.i : PD → Int | .int _ n => n | _ => 0
def PD.isB : PD → Bool | .bool _ => true | _ => false
def PD.b : PD → Bool | .bool b => b | _ => false
def PD.isT : PD → Bool | .str _ => true | _ => false
def PD.s : PD → List UInt8 | .str s => s | _ => []
def PD.isS (k : Nat) : PD → Bool | .sl k' _ => decide (k' = k) | .nl => true | _ => false
def PD.isL : PD → Bool | .sl _ _ | .nl => true | _ => false
def PD.rs : PD → List (List PD) | .sl _ rs => rs | _ => []
def PD.isN : PD → Bool | .nl => true | _ => false

theorem add_off (b off i : Nat) : (⟨b, off, none⟩ : Addr).add i = ⟨b, off + i, none⟩ := by
  unfold Addr.add
  split
  · rename_i h; subst h; rfl
  · rfl

/-! ### Loads -/
def ldD (P : Program) (M : List DE) (t : TypeId) (x : DV) : Option DV :=
  match P.info? t, P.underlying t with
  | some i, some d =>
    match x with
    | .sa cs => if aggD d then gd (i.size ≤ cs.length) (.agg ((cs.take i.size).map .pd)) else gd (1 ≤ cs.length) (.pd (cs.getD 0 .nl))
    | .ptr id off =>
      match M[id]? with
      | some (.obj cs) => if aggD d then gd (off + i.size ≤ cs.length) (.agg ((cs.drop off).take i.size)) else gd (off < cs.length) (cs.getD off .any)
      | _ => none
    | .ra id k j off =>
      match M[id]? with
      | some (.row _ k' rs) => if aggD d then gd (k' = k ∧ j < rs.length ∧ (rs.getD j []).length = k ∧ off + i.size ≤ k) (.agg (((rs.getD j []).drop off).take i.size))
          else gd (k' = k ∧ j < rs.length ∧ off < k) ((rs.getD j []).getD off .any)
      | _ => none
    | _ => none
  | _, _ => none

/-- A load of cells that are known one by one. -/
theorem load_cells {P : Program} {E : EV} {w : World} {t : TypeId} {i : TypeInfo} {d : TypeDesc} (hi : P.info? t = some i) (hd : P.underlying t = some d)
    (b off m : Nat) (f : Nat → DV) (h : ∀ q, q < m → ∃ u, w.cell? ⟨b, off + q, none⟩ = some u ∧ VR E w (f q) u) :
    (aggD d = true → i.size ≤ m → ∃ r, (Instr.loadAt t (.pointer (some ⟨b, off, none⟩))).run P w = .ok r w ∧ VR E w (.agg ((List.range i.size).map f)) r) ∧
    (aggD d = false → 1 ≤ m → ∃ r, (Instr.loadAt t (.pointer (some ⟨b, off, none⟩))).run P w = .ok r w ∧ VR E w (f 0) r) := by
  have hx : ∀ q, ∃ u, q < m → w.cell? ⟨b, off + q, none⟩ = some u ∧ VR E w (f q) u := fun q => by
    by_cases hq : q < m
    · obtain ⟨u, hu⟩ := h q hq; exact ⟨u, fun _ => hu⟩
    · exact ⟨undef, fun h => absurd h hq⟩
  obtain ⟨u, hu⟩ := Classical.axiomOfChoice hx
  refine ⟨fun hg hm => ?_, fun hg hm => ?_⟩
  · have hl := run_loadCells_list (P := P) (w := w) ⟨b, off, none⟩ ((List.range i.size).map u) (fun j v hj => by
      simp only [List.getElem?_map] at hj
      by_cases hjs : j < i.size
      · rw [List.getElem?_range hjs] at hj
        simp only [Option.map_some, Option.some.injEq] at hj
        rw [add_off, (hu j (by omega)).1, hj]
      · rw [List.getElem?_eq_none (by simpa using hjs)] at hj; cases hj)
    rw [List.length_map, List.length_range] at hl
    refine ⟨.agg ((List.range i.size).map u).toArray, ?_, ?_⟩
    · simp [Instr.loadAt, Instr.sureAddr, loadVar, Sem.run_bind, run_agg hd, run_size hi, hg, hl]
    · refine .agg (by simp) fun q x v h1 h2 => ?_
      simp only [List.getElem?_map, List.getElem?_toArray] at h1 h2
      by_cases hq : q < i.size
      · rw [List.getElem?_range hq] at h1 h2
        simp only [Option.map_some, Option.some.injEq] at h1 h2
        rw [← h1, ← h2]; exact (hu q (by omega)).2
      · rw [List.getElem?_eq_none (by simpa using hq)] at h1; cases h1
  · have h0 := hu 0 (by omega)
    refine ⟨u 0, ?_, h0.2⟩
    have hc : w.cell? ⟨b, off, none⟩ = some (u 0) := h0.1
    simp [Instr.loadAt, Instr.sureAddr, loadVar, Sem.run_bind, run_agg hd, hg, load, Sem.run, hc]

theorem getD_eq {cs : List DV} {off : Nat} (h : off < cs.length) : cs[off]? = some (cs.getD off .any) := by
  rw [List.getD_eq_getElem?_getD, List.getElem?_eq_getElem h]; rfl

theorem obj_cell {E : EV} {w : World} {id : Nat} {cs : List DV} (h : OR E w id (.obj cs)) (off q : Nat) (hq : q < cs.length - off) :
    ∃ u, w.cell? ⟨E.b id, off + q, none⟩ = some u ∧ VR E w (cs.getD (off + q) .any) u := by
  obtain ⟨vs, e, hh, hl, hv⟩ := h
  have h2 : vs[off + q]? = some (vs[off + q]'(by omega)) := Array.getElem?_eq_getElem _
  exact ⟨_, by simp only [World.cell?, hh, Option.isSome_none, Bool.false_eq_true, if_false]; exact h2, hv _ _ _ (getD_eq (by omega)) h2⟩

theorem row_cell {E : EV} {w : World} {id e k : Nat} {rs : List (List DV)} (h : OR E w id (.row e k rs)) (j q : Nat) (hj : j < rs.length) (hq : q < k) :
    ∃ u, w.cell? ⟨E.b id, j * k + q, none⟩ = some u ∧ VR E w ((rs.getD j []).getD q .any) u := by
  obtain ⟨_, _, _, cur, hh, _, hx⟩ := h
  obtain ⟨v, h1, h2⟩ := hx j q hj hq
  exact ⟨v, by simp only [World.cell?, hh, Option.isSome_none, Bool.false_eq_true, if_false]; exact h1, h2⟩

theorem take_drop_range (cs : List DV) (off m : Nat) (h : off + m ≤ cs.length) : (cs.drop off).take m = (List.range m).map fun q => cs.getD (off + q) .any := by
  apply List.ext_getElem?
  intro i
  simp only [List.getElem?_take, List.getElem?_drop, List.getElem?_map]
  by_cases hi : i < m
  · rw [if_pos hi, List.getElem?_range hi, getD_eq (by omega)]; rfl
  · rw [if_neg hi, List.getElem?_eq_none (by simpa using hi)]; rfl

theorem take_pd_range (cs : List PD) (m : Nat) (h : m ≤ cs.length) : (cs.take m).map DV.pd = (List.range m).map fun q => .pd (cs.getD q .nl) := by
  apply List.ext_getElem?
  intro i
  simp only [List.getElem?_take, List.getElem?_map]
  by_cases hi : i < m
  · rw [if_pos hi, List.getElem?_range hi]; simp [List.getElem?_eq_getElem (show i < cs.length by omega)]
  · rw [if_neg hi, List.getElem?_eq_none (by simpa using hi)]; rfl

theorem ldD_sound {P : Program} {E : EV} {w : World} {M : List DE} {t : TypeId} {x v : DV} {u : Value} (h : ldD P M t x = some v) (hx : VR E w x u) (hH : HR E M w) :
    ∃ r, (Instr.loadAt t u).run P w = .ok r w ∧ VR E w v r := by
  unfold ldD at h
  split at h
  · rename_i i d hi hd
    split at h
    · cases hx with
      | sa u hu =>
        rename_i cs b off
        have hl := load_cells (E := E) (w := w) hi hd b off cs.length (fun q => .pd (cs.getD q .nl)) (fun q hq => ⟨u q, (hu q hq).2.1, .pd (hu q hq).2.2⟩)
        split at h <;> (rename_i hg; obtain ⟨hc, h2⟩ := gd_some h; subst h2)
        · rw [take_pd_range _ _ hc]; exact hl.1 hg hc
        · exact hl.2 (by simpa using hg) hc
    · cases hx with
      | ptr ha =>
        rename_i id off
        split at h
        · rename_i cs hM
          have hl := load_cells (E := E) (w := w) hi hd (E.b id) off (cs.length - off) (fun q => cs.getD (off + q) .any) (fun q hq => obj_cell (hH.objs _ _ hM) off q hq)
          split at h <;> (rename_i hg; obtain ⟨hc, h2⟩ := gd_some h; subst h2)
          · rw [take_drop_range _ _ _ hc]; exact hl.1 hg (by omega)
          · exact hl.2 (by simpa using hg) (by omega)
        · cases h
    · cases hx with
      | ra ha =>
        rename_i id k j off
        split at h
        · rename_i e k' rs hM
          split at h <;> (rename_i hg; obtain ⟨hc, h2⟩ := gd_some h; subst h2)
          · obtain ⟨rfl, hc1, hc0, hc2⟩ := hc
            have hl := load_cells (E := E) (w := w) hi hd (E.b id) (j * k' + off) (k' - off) (fun q => (rs.getD j []).getD (off + q) .any) (fun q hq => by
              rw [Nat.add_assoc]; exact row_cell (hH.objs _ _ hM) j (off + q) hc1 (by omega))
            rw [take_drop_range _ _ _ (by omega)]
            exact hl.1 hg (by omega)
          · obtain ⟨rfl, hc1, hc2⟩ := hc
            have hl := load_cells (E := E) (w := w) hi hd (E.b id) (j * k' + off) (k' - off) (fun q => (rs.getD j []).getD (off + q) .any) (fun q hq => by
              rw [Nat.add_assoc]; exact row_cell (hH.objs _ _ hM) j (off + q) hc1 (by omega))
            exact hl.2 (by simpa using hg) (by omega)
        · cases h
    · cases h
  · cases h

/-! ### Addresses -/
def faD (P : Program) (s : TypeId) (x : DV) (f : Nat) : Option DV :=
  match P.underlying s with
  | some (.struct fs) =>
    match fs[f]? with
    | some fl =>
      match P.info? fl.type with
      | some i =>
        match x with
        | .sa cs => gd (i.size ≠ 0) (.sa (cs.drop fl.offset))
        | .ptr id off => gd (i.size ≠ 0) (.ptr id (off + fl.offset))
        | .ra id k j off => gd (i.size ≠ 0) (.ra id k j (off + fl.offset))
        | _ => none
      | none => none
    | none => none
  | _ => none

theorem faD_sound {P : Program} {E : EV} {w : World} {s : TypeId} {x v : DV} {f : Nat} {u : Value} (h : faD P s x f = some v) (hx : VR E w x u) :
    ∃ r, (Instr.fieldAt s u f).run P w = .ok r w ∧ VR E w v r := by
  unfold faD at h
  split at h
  · rename_i fs hs
    split at h
    · rename_i fl hf
      split at h
      · rename_i i hi
        have key : i.size ≠ 0 → ∀ b off, (Instr.fieldAt s (.pointer (some ⟨b, off, none⟩)) f).run P w = .ok (.pointer (some ⟨b, off + fl.offset, none⟩)) w := fun h0 b off => by
          simp [Instr.fieldAt, Sem.run_bind, run_und hs, hf, Instr.sureAddr, fieldPlace, run_size hi, h0, add_off]
        split at h
        · cases hx with
          | sa u hu =>
            obtain ⟨hc, h2⟩ := gd_some h; subst h2
            refine ⟨_, key hc _ _, .sa (fun q => u (fl.offset + q)) fun q hq => ?_⟩
            have := hu (fl.offset + q) (by simp at hq; omega)
            rw [← Nat.add_assoc] at this
            rw [List.getD_eq_getElem?_getD, List.getElem?_drop, ← List.getD_eq_getElem?_getD]
            exact this
        · cases hx with
          | ptr ha =>
            obtain ⟨hc, h2⟩ := gd_some h; subst h2
            exact ⟨_, key hc _ _, .ptr ha⟩
        · cases hx with
          | ra ha =>
            obtain ⟨hc, h2⟩ := gd_some h; subst h2
            refine ⟨_, key hc _ _, ?_⟩
            rw [Nat.add_assoc]
            exact .ra ha
        · cases h
      · cases h
    · cases h
  · cases h

def iaD (P : Program) (M : List DE) (t : TypeId) (x y : DV) : Option DV :=
  match P.underlying t with
  | some (.slice e) =>
    match P.info? e with
    | some i =>
      match y with
      | .pd q =>
        match x with
        | .pd p => gd (q.isI ∧ p.isS i.size ∧ 0 ≤ q.i ∧ q.i < p.rs.length ∧ (p.rs.getD q.i.toNat []).length = i.size) (.sa (p.rs.getD q.i.toNat []))
        | .own id =>
          match M[id]? with
          | some (.row _ k rs) => gd (q.isI ∧ k = i.size ∧ 0 ≤ q.i ∧ q.i < rs.length) (.ra id k q.i.toNat 0)
          | _ => none
        | _ => none
      | _ => none
    | none => none
  | _ => none

theorem iaD_sound {P : Program} {E : EV} {w : World} {M : List DE} {t : TypeId} {x y v : DV} {u z : Value} (h : iaD P M t x y = some v)
    (hx : VR E w x u) (hy : VR E w y z) (hH : HR E M w) : ∃ r, (Instr.indexAt t u z).run P w = .ok r w ∧ VR E w v r := by
  unfold iaD at h
  split at h
  · rename_i e ht
    split at h
    · rename_i i hi
      split at h
      · rename_i q
        cases hy with
        | pd hq =>
          have key : ∀ (k : IntKind) (m : Int) (b off n cap : Nat), 0 ≤ m → m < (n : Int) → (Instr.indexAt t (.slice (some ⟨b, off, none⟩) n cap) (.int k m)).run P w = .ok (.pointer (some ⟨b, off + m.toNat * i.size, none⟩)) w := fun k m b off n cap h0 h1 => by
            simp [Instr.indexAt, asIntOf, Sem.run_bind, run_und ht, run_size hi, h0, h1, add_off]
          split at h
          · rename_i p
            obtain ⟨hc, h2⟩ := gd_some h; subst h2
            obtain ⟨hc1, hc2, hc3, hc4, hc5⟩ := hc
            cases hx with
            | pd hp =>
              cases hq <;> simp only [PD.isI, Bool.false_eq_true] at hc1
              simp only [PD.i] at hc3 hc4 hc5 ⊢
              cases hp <;> simp only [PD.isS, PD.rs, Bool.false_eq_true, decide_eq_true_eq, List.length_nil] at hc2 hc4 hc5 ⊢
              · omega
              · rename_i kk m k rs b off cap uu hcap hm hcc huu
                subst hc2
                refine ⟨_, key _ _ _ _ _ _ hc3 hc4, .sa (uu m.toNat) fun a ha => ?_⟩
                rw [hc5] at ha
                have := hcc m.toNat a (by omega) ha
                rw [← Nat.add_assoc] at this
                exact ⟨this.1, this.2, huu _ _ (by omega) ha⟩
          · rename_i id
            split at h
            · rename_i e' k rs hM
              obtain ⟨hc, h2⟩ := gd_some h; subst h2
              obtain ⟨hc1, hc2, hc3, hc4⟩ := hc
              cases hx with
              | own ha =>
                cases hq <;> simp only [PD.isI, Bool.false_eq_true] at hc1
                simp only [PD.i] at hc3 hc4 ⊢
                have hn : E.n id = rs.length := (hH.objs _ _ hM).1
                refine ⟨_, key _ _ _ _ _ _ hc3 (by rw [hn]; exact hc4), ?_⟩
                rw [← hc2, Nat.zero_add]
                exact .ra (off := 0) ha
            · cases h
          · cases h
      · cases h
    · cases h
  · cases h

/-! ### Parts -/
def ixD (P : Program) (t : TypeId) (x y : DV) : Option DV :=
  match P.underlying t with
  | some .string =>
    match x, y with
    | .pd p, .pd q => gd (q.isI ∧ p.isT ∧ 0 ≤ q.i ∧ q.i < p.s.length) (.pd (.int .u8 (p.s.getD q.i.toNat 0).toNat))
    | _, _ => none
  | _ => none

theorem ixD_sound {P : Program} {E : EV} {w : World} {t : TypeId} {x y v : DV} {u z : Value} (h : ixD P t x y = some v)
    (hx : VR E w x u) (hy : VR E w y z) : ∃ r, (Instr.index t u z).run P w = .ok r w ∧ VR E w v r := by
  unfold ixD at h
  split at h
  · rename_i ht
    split at h
    · rename_i p q
      obtain ⟨hc, h2⟩ := gd_some h; subst h2
      obtain ⟨hc1, hc2, hc3, hc4⟩ := hc
      cases hx with
      | pd hp =>
        cases hy with
        | pd hq =>
          cases hq <;> simp only [PD.isI, Bool.false_eq_true] at hc1
          cases hp <;> simp only [PD.isT, Bool.false_eq_true] at hc2
          rename_i k m s
          simp only [PD.i, PD.s] at hc3 hc4 ⊢
          have hlt : m.toNat < s.length := by omega
          have hb : (⟨⟨s⟩⟩ : ByteArray)[m.toNat]? = some (s.getD m.toNat 0) := by
            rw [List.getD_eq_getElem?_getD, List.getElem?_eq_getElem hlt]
            show (⟨⟨s⟩⟩ : ByteArray)[m.toNat]? = some s[m.toNat]
            have hsz : m.toNat < (⟨⟨s⟩⟩ : ByteArray).size := hlt
            rw [getElem?_pos (⟨⟨s⟩⟩ : ByteArray) m.toNat hsz]
            rfl
          refine ⟨.int .u8 (s.getD m.toNat 0).toNat, ?_, .pd (.int _ _)⟩
          simp [Instr.index, asIntOf, Sem.run_bind, run_und ht, hc3, hb]
    · cases h
  · cases h

def fdD (P : Program) (t : TypeId) (x : DV) (f : Nat) : Option DV :=
  match P.underlying t with
  | some (.struct fs) =>
    match fs[f]? with
    | some fl =>
      match P.info? fl.type, P.underlying fl.type with
      | some i, some d =>
        match x with
        | .agg cs => if aggD d then gd (fl.offset + i.size ≤ cs.length) (.agg ((cs.drop fl.offset).take i.size)) else gd (fl.offset < cs.length) (cs.getD fl.offset .any)
        | _ => none
      | _, _ => none
    | none => none
  | _ => none

theorem part_sound {P : Program} {E : EV} {w : World} {t : TypeId} {i : TypeInfo} {d : TypeDesc} (hi : P.info? t = some i) (hd : P.underlying t = some d) {cs : List DV} {vs : Array Value}
    (h : LR E w cs vs) (off : Nat) :
    (aggD d = true → off + i.size ≤ cs.length → ∃ r, (part t vs off).run P w = .ok r w ∧ VR E w (.agg ((cs.drop off).take i.size)) r) ∧
    (aggD d = false → off < cs.length → ∃ r, (part t vs off).run P w = .ok r w ∧ VR E w (cs.getD off .any) r) := by
  refine ⟨fun hg hm => ?_, fun hg hm => ?_⟩
  · refine ⟨.agg (vs.extract off (off + i.size)), ?_, .agg ?_ fun q x v h1 h2 => ?_⟩
    · simp [part, Sem.run_bind, run_agg hd, run_size hi, hg]
    · simp only [Array.size_extract, List.length_take, List.length_drop, h.1]; omega
    · simp only [List.getElem?_take, List.getElem?_drop] at h1
      rw [Array.getElem?_extract] at h2
      split at h1
      · split at h2
        · exact h.2 _ _ _ h1 h2
        · cases h2
      · cases h1
  · have h2 : vs[off]? = some (vs[off]'(by rw [h.1]; exact hm)) := Array.getElem?_eq_getElem _
    exact ⟨_, by simp [part, Sem.run_bind, run_agg hd, hg, h2], h.2 _ _ _ (getD_eq hm) h2⟩

theorem fdD_sound {P : Program} {E : EV} {w : World} {t : TypeId} {x v : DV} {f : Nat} {u : Value} (h : fdD P t x f = some v) (hx : VR E w x u) :
    ∃ r, (Instr.field t u f).run P w = .ok r w ∧ VR E w v r := by
  unfold fdD at h
  split at h
  · rename_i fs hs
    split at h
    · rename_i fl hf
      split at h
      · rename_i i d hi hd
        split at h
        · rename_i cs
          cases hx with
          | agg h1 h2 =>
            have hp := part_sound (E := E) (w := w) hi hd ⟨h1, h2⟩ fl.offset
            split at h <;> (rename_i hg; obtain ⟨hc, h4⟩ := gd_some h; subst h4)
            · obtain ⟨r, hr, hv⟩ := hp.1 hg hc
              exact ⟨r, by simp [Instr.field, Sem.run_bind, run_und hs, hf, asAgg, hr], hv⟩
            · obtain ⟨r, hr, hv⟩ := hp.2 (by simpa using hg) hc
              exact ⟨r, by simp [Instr.field, Sem.run_bind, run_und hs, hf, asAgg, hr], hv⟩
        · cases h
      · cases h
    · cases h
  · cases h

def exD (x : DV) (i : Nat) : Option DV :=
  match x with
  | .tup vs => gd (i < vs.length) (vs.getD i .any)
  | _ => none

theorem exD_sound {P : Program} {E : EV} {w : World} {x v : DV} {i : Nat} {u : Value} (h : exD x i = some v) (hx : VR E w x u) :
    ∃ r, (Instr.extract u i).run P w = .ok r w ∧ VR E w v r := by
  unfold exD at h
  split at h
  · obtain ⟨hc, h2⟩ := gd_some h; subst h2
    cases hx with
    | tup h1 h2 =>
      rename_i vs us
      have h3 : us[i]? = some (us[i]'(by rw [h1]; exact hc)) := Array.getElem?_eq_getElem _
      exact ⟨_, by simp [Instr.extract, h3], h2 _ _ _ (getD_eq hc) h3⟩
  · cases h

end Go.Proofs.YtkcelehlilppcaaGreat
