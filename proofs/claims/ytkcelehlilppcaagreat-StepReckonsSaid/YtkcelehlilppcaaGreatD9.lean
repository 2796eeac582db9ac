/- The operations that lay or turn memory. No condition. -/
import Derived.Test.YtkcelehlilppcaaGreatD8
import Derived.Deep.MidRow
set_option linter.unusedVariables false
set_option linter.unusedSimpArgs false
namespace Go.Proofs.YtkcelehlilppcaaGreat
open Go.RowKit

/-! ### Stores -/
theorem setCells_heap (b : Nat) (e : TypeId) (fr : Nat × Nat) : ∀ (vs : List Value) (o : Nat) (w : World) (cs : Array Value), w.heap[b]? = some (.cells cs e fr) → o + vs.length ≤ cs.size →
    ∃ cs', (w.setCells b o vs).heap[b]? = some (.cells cs' e fr) ∧ cs'.size = cs.size ∧ (∀ i, cs'[i]? = if o ≤ i ∧ i < o + vs.length then vs[i - o]? else cs[i]?) ∧
      (∀ q, q ≠ b → (w.setCells b o vs).heap[q]? = w.heap[q]?) ∧ (w.setCells b o vs).heap.size = w.heap.size ∧
      (w.setCells b o vs).os = w.os ∧ (w.setCells b o vs).tape = w.tape ∧ (w.setCells b o vs).output = w.output := by
  intro vs
  induction vs with
  | nil => intro o w cs h _; exact ⟨cs, h, rfl, fun i => by simp; omega, fun _ _ => rfl, rfl, rfl, rfl, rfl⟩
  | cons v vs ih =>
    intro o w cs h hl
    simp only [List.length_cons] at hl
    have h1 : (w.setCell ⟨b, o, none⟩ v).heap[b]? = some (.cells (cs.setIfInBounds o v) e fr) := by
      simp [World.setCell, Array.getElem?_modify, h]
    obtain ⟨cs', a1, a2, a3, a4, a5, a6, a7, a8⟩ := ih (o + 1) (w.setCell ⟨b, o, none⟩ v) (cs.setIfInBounds o v) h1 (by simp; omega)
    refine ⟨cs', a1, by rw [a2]; simp, fun i => ?_, fun q hq => (a4 q hq).trans (Below.heap_setCell w _ v q hq), by rw [World.setCells, a5]; simp [World.setCell], a6, a7, a8⟩
    rw [a3 i, Array.getElem?_setIfInBounds]
    simp only [List.length_cons]
    by_cases c1 : o + 1 ≤ i ∧ i < o + 1 + vs.length
    · rw [if_pos c1, if_pos (by omega), show i - o = (i - (o + 1)) + 1 by omega, List.getElem?_cons_succ]
    · rw [if_neg c1]
      by_cases c2 : o = i
      · subst c2; rw [if_pos rfl, if_pos (by omega), if_pos (by omega), Nat.sub_self]; rfl
      · rw [if_neg c2, if_neg (by omega)]

theorem run_store {P : Program} {w : World} {b o : Nat} {e : TypeId} {cs : Array Value} {t : TypeId} {i : TypeInfo} {v : Value} (hi : P.info? t = some i) (hb : w.heap[b]? = some (.cells cs e (0, 0)))
    (hs : v.cells.size = i.size) (ho : o + i.size ≤ cs.size) (h1 : ∀ u ∈ v.cells.toList, u.oneCell' = true) :
    (Instr.storeAt t (.pointer (some ⟨b, o, none⟩)) v).run P w = .ok () (w.setCells b o v.cells.toList) := by
  have h := run_storeVar_mid (P := P) w b o t v.cells (fun j hj => by
    refine ⟨?_, ?_⟩
    · simp only [World.cell?, hb, Option.isSome_none, Bool.false_eq_true, if_false]
      rw [Array.getElem?_eq_getElem (by omega)]; rfl
    · simp [World.frozen?, hb]) (by simp [hi, hs]) (Array.all_eq_true_iff_forall_mem.2 fun u hu => h1 u (by simpa using hu))
  simp only [Instr.storeAt, Instr.sureAddr, Sem.run_bind, Sem.run_pure, Result.andThen_ok]
  exact h

def stD (P : Program) (M : List DE) (t : TypeId) (x v : DV) : Option (List DE) :=
  match P.info? t, cellsD v with
  | some i, some vs =>
    match x with
    | .ptr id off =>
      match M[id]? with
      | some (.obj cs) => gd (vs.length = i.size ∧ off + i.size ≤ cs.length ∧ vs.all scal = true) (M.set id (.obj (setAll cs off vs)))
      | _ => none
    | .ra id k j off =>
      match M[id]? with
      | some (.row e k' rs) => gd (k' = k ∧ j < rs.length ∧ vs.length = i.size ∧ off + i.size ≤ k ∧ (rs.getD j []).length = k ∧ vs.all scal = true)
          (M.set id (.row e k' (rs.set j (setAll (rs.getD j []) off vs))))
      | _ => none
    | _ => none
  | _, _ => none

theorem stD_sound {P : Program} {E : EV} {w : World} {M M' : List DE} {t : TypeId} {x v : DV} {u z : Value} (h : stD P M t x v = some M') (hx : VR E w x u) (hv : VR E w v z) (hH : HR E M w)
    (df : List Deferred) : ∃ w', (Instr.storeAt t u z).run P w = .ok () w' ∧ HR E M' w' ∧ XT ⟨w, E, M, df⟩ E M' w' ∧ EE E E w w' := by
  unfold stD at h
  split at h
  · rename_i i vs hi hvs
    have hcl := cellsD_sound hvs hv
    split at h
    · rename_i id off
      split at h
      · rename_i cs hM
        obtain ⟨hc, h2⟩ := gd_some h; subst h2
        obtain ⟨hc1, hc2, hc3⟩ := hc
        cases hx with
        | ptr ha =>
          obtain ⟨as, e, hb, hl⟩ := hH.objs _ _ hM
          have hsz : z.cells.size = i.size := by rw [hcl.1, hc1]
          obtain ⟨cs', a1, a2, a3, a4, a5, a6, a7, a8⟩ := setCells_heap (E.b id) e (0, 0) z.cells.toList off w as hb (by simp [hl.1, hsz]; omega)
          have hup := upd_step (w' := w.setCells (E.b id) off z.cells.toList) (o' := .obj (setAll cs off vs)) hH df hM trivial trivial a6 a7 a8 a5 a4 (fun hE => ⟨cs', e, a1, by rw [a2, setAll_length _ _ _ (by omega), hl.1], fun q y r h1 h2 => by
            rw [setAll_get _ _ _ (by omega)] at h1
            rw [a3 q] at h2
            simp only [Array.length_toList, hcl.1] at h2
            by_cases q1 : q < off
            · rw [if_pos q1] at h1; rw [if_neg (by omega)] at h2; exact (hl.2 _ _ _ h1 h2).mono hE
            · rw [if_neg q1] at h1
              by_cases q2 : q < off + vs.length
              · rw [if_pos q2] at h1; rw [if_pos (by omega)] at h2
                exact (hcl.2 _ _ _ h1 (by simpa using h2)).mono hE
              · rw [if_neg q2] at h1; rw [if_neg (by omega)] at h2; exact (hl.2 _ _ _ h1 h2).mono hE⟩)
          exact ⟨_, run_store hi hb hsz (by rw [hl.1]; exact hc2) (hcl.one hc3), hup⟩
      · cases h
    · rename_i id k j off
      split at h
      · rename_i e k' rs hM
        obtain ⟨hc, h2⟩ := gd_some h; subst h2
        obtain ⟨rfl, hc2, hc3, hc4, hc0, hc5⟩ := hc
        cases hx with
        | ra ha =>
          obtain ⟨g1, g2, g3, cur, hb, g5, g6⟩ := hH.objs _ _ hM
          have hsz : z.cells.size = i.size := by rw [hcl.1, hc3]
          have hjk : j * k' + k' ≤ E.cap id * k' := by
            have : (j + 1) * k' ≤ E.cap id * k' := Nat.mul_le_mul_right k' (by omega)
            rwa [Nat.succ_mul] at this
          obtain ⟨cs', a1, a2, a3, a4, a5, a6, a7, a8⟩ := setCells_heap (E.b id) e (0, 0) z.cells.toList (j * k' + off) w cur hb (by simp [g5, hsz]; omega)
          have hup := upd_step (w' := w.setCells (E.b id) (j * k' + off) z.cells.toList)
            (o' := .row e k' (rs.set j (setAll (rs.getD j []) off vs))) hH df hM trivial trivial a6 a7 a8 a5 a4
            (fun hE => ⟨by rw [List.length_set]; exact g1, by rw [List.length_set]; exact g2, g3, cs', a1, by rw [a2, g5], fun j' i' hj' hi' => by
              rw [List.length_set] at hj'
              rw [a3 (j' * k' + i')]
              simp only [Array.length_toList, hcl.1]
              by_cases q1 : j' = j
              · subst q1
                have hg : (rs.set j' (setAll (rs.getD j' []) off vs)).getD j' [] = setAll (rs.getD j' []) off vs := by
                  rw [List.getD_eq_getElem?_getD, List.getElem?_set, if_pos rfl, if_pos hj']; rfl
                rw [hg, List.getD_eq_getElem?_getD, setAll_get _ _ _ (by omega)]
                by_cases q2 : off ≤ i' ∧ i' < off + vs.length
                · rw [if_neg (show ¬ i' < off by omega), if_pos q2.2, if_pos (show j' * k' + off ≤ j' * k' + i' ∧ j' * k' + i' < j' * k' + off + vs.length by omega), show j' * k' + i' - (j' * k' + off) = i' - off by omega]
                  have hlt : i' - off < vs.length := by omega
                  have h2 : z.cells[i' - off]? = some (z.cells[i' - off]'(by rw [hcl.1]; exact hlt)) := Array.getElem?_eq_getElem _
                  rw [← List.getD_eq_getElem?_getD]
                  exact ⟨_, by simp, (hcl.2 _ _ _ (getD_eq hlt) h2).mono hE⟩
                · have hh : (if i' < off then (rs.getD j' [])[i']? else if i' < off + vs.length then vs[i' - off]? else (rs.getD j' [])[i']?) = (rs.getD j' [])[i']? := by
                    by_cases q3 : i' < off
                    · rw [if_pos q3]
                    · rw [if_neg q3, if_neg (by omega)]
                  rw [hh, if_neg (show ¬ (j' * k' + off ≤ j' * k' + i' ∧ j' * k' + i' < j' * k' + off + vs.length) by omega), ← List.getD_eq_getElem?_getD]
                  obtain ⟨r, h3, h4⟩ := g6 j' i' hj' hi'
                  exact ⟨r, h3, h4.mono hE⟩
              · have hg : (rs.set j (setAll (rs.getD j []) off vs)).getD j' [] = rs.getD j' [] := by
                  rw [List.getD_eq_getElem?_getD, List.getElem?_set, if_neg (fun e => q1 e.symm), ← List.getD_eq_getElem?_getD]
                rw [hg]
                have hd : ¬ (j * k' + off ≤ j' * k' + i' ∧ j' * k' + i' < j * k' + off + vs.length) := fun ⟨h3, h4⟩ => by
                  rcases Nat.lt_or_gt_of_ne q1 with h5 | h5
                  · have : (j' + 1) * k' ≤ j * k' := Nat.mul_le_mul_right k' h5
                    rw [Nat.succ_mul] at this; omega
                  · have : (j + 1) * k' ≤ j' * k' := Nat.mul_le_mul_right k' h5
                    rw [Nat.succ_mul] at this; omega
                rw [if_neg hd]
                obtain ⟨r, h3, h4⟩ := g6 j' i' hj' hi'
                exact ⟨r, h3, h4.mono hE⟩⟩)
          exact ⟨_, run_store hi hb hsz (by rw [g5]; omega) (hcl.one hc5), hup⟩
      · cases h
    · cases h
  · cases h

end Go.Proofs.YtkcelehlilppcaaGreat
