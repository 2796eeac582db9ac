/- Slices that are laid out, grown, copied, cut. No condition. -/
import Derived.Test.YtkcelehlilppcaaGreatD11
set_option linter.unusedVariables false
set_option linter.unusedSimpArgs false
namespace Go.Proofs.YtkcelehlilppcaaGreat
open Go.RowKit

theorem row_lt {j n k i : Nat} (hj : j < n) (hi : i < k) : j * k + i < n * k := by
  have : (j + 1) * k ≤ n * k := Nat.mul_le_mul_right k (by omega)
  rw [Nat.succ_mul] at this; omega

theorem row_ne {j j' k i i' : Nat} (hne : j' ≠ j) (hi : i < k) (hi' : i' < k) : ¬ (j * k ≤ j' * k + i' ∧ j' * k + i' < j * k + k) := fun ⟨h3, h4⟩ => by
  rcases Nat.lt_or_gt_of_ne hne with h5 | h5
  · have : (j' + 1) * k ≤ j * k := Nat.mul_le_mul_right k h5
    rw [Nat.succ_mul] at this; omega
  · have : (j + 1) * k ≤ j' * k := Nat.mul_le_mul_right k h5
    rw [Nat.succ_mul] at this; omega

def fillR (k : Nat) (rs : List (List DV)) : List (Nat × DV) → Option (List (List DV))
  | [] => some rs
  | (i, v) :: rest =>
    match cellsD v with
    | some vs => if vs.length = k ∧ i < rs.length then fillR k (rs.set i vs) rest else none
    | none => none

theorem fillR_sound {E : EV} {w : World} {k : Nat} : ∀ (parts : List (Nat × DV)) (ps : List (Nat × Value)) (rs rs' : List (List DV)) (as : Array Value),
    fillR k rs parts = some rs' → RR E w k rs (fun q => as[q]?) → as.size = rs.length * k → ps.length = parts.length →
    (∀ (q : Nat) (x : Nat × DV) (y : Nat × Value), parts[q]? = some x → ps[q]? = some y → y.1 = x.1 ∧ VR E w x.2 y.2) →
    ∃ as', Instr.fill (fun i => some (i * k, k)) as ps = some as' ∧ as'.size = rs.length * k ∧ rs'.length = rs.length ∧ RR E w k rs' fun q => as'[q]? := by
  intro parts
  induction parts with
  | nil =>
    intro ps rs rs' as h hr hs hlen _
    cases ps with
    | nil => simp only [fillR, Option.some.injEq] at h; subst h; exact ⟨as, rfl, hs, rfl, hr⟩
    | cons => simp at hlen
  | cons x parts ih =>
    intro ps rs rs' as h hr hs hlen hv
    cases ps with
    | nil => simp at hlen
    | cons y ps =>
      obtain ⟨i, v⟩ := x
      obtain ⟨i', u⟩ := y
      have h0 := hv 0 (i, v) (i', u) rfl rfl
      simp only at h0
      obtain ⟨rfl, h0⟩ := h0
      unfold fillR at h
      split at h
      · rename_i vs hvs
        split at h
        · rename_i hcond
          obtain ⟨hc1, hc2⟩ := hcond
          have hc := cellsD_sound hvs h0
          have hle : i' * k + k ≤ rs.length * k := by
            have : (i' + 1) * k ≤ rs.length * k := Nat.mul_le_mul_right k hc2
            rwa [Nat.succ_mul] at this
          have hf := foldl_set (i' * k) u.cells.toList 0 as (by simp [hc.1, hc1, hs]; omega)
          have he : u.cells.zipIdx.foldl (fun cs (c, j) => cs.setIfInBounds (i' * k + j) c) as = (u.cells.toList.zipIdx 0).foldl (fun cs (x : Value × Nat) => cs.setIfInBounds (i' * k + x.2) x.1) as := by
            rw [← Array.foldl_toList, Array.toList_zipIdx]
          obtain ⟨as', a1, a2, a3, a4⟩ := ih ps (rs.set i' vs) rs' (u.cells.zipIdx.foldl (fun cs (c, j) => cs.setIfInBounds (i' * k + j) c) as) h (fun j q hj hq => by
              rw [List.length_set] at hj
              rw [he]
              simp only [hf.2, Nat.add_zero, Array.length_toList, hc.1, hc1]
              by_cases hji : j = i'
              · subst hji
                rw [if_pos (by omega)]
                have hq' : q < u.cells.size := by rw [hc.1, hc1]; exact hq
                have hrow : (rs.set j vs).getD j [] = vs := by rw [List.getD_eq_getElem?_getD, List.getElem?_set, if_pos rfl, if_pos hj]; rfl
                rw [hrow]
                refine ⟨u.cells[q], by rw [show j * k + q - j * k = q by omega]; simp [hq'], hc.2 q _ _ (getD_eq (by omega)) (Array.getElem?_eq_getElem hq')⟩
              · rw [if_neg (row_ne hji (show 0 < k by omega) hq)]
                have hrow : (rs.set i' vs).getD j [] = rs.getD j [] := by
                  rw [List.getD_eq_getElem?_getD, List.getElem?_set, if_neg (fun e => hji e.symm), ← List.getD_eq_getElem?_getD]
                rw [hrow]
                exact hr j q hj hq) (by rw [he, hf.1, hs, List.length_set]) (by simpa using hlen) (fun q x y hq hy => hv (q + 1) x y hq hy)
          refine ⟨as', ?_, by rw [a2, List.length_set], by rw [a3, List.length_set], a4⟩
          unfold Instr.fill
          simp only
          rw [if_neg (by rw [hc.1, hc1, hs]; simp; omega)]
          exact a1
        · cases h
      · cases h

def bsD (P : Program) (M : List DE) (t : TypeId) (len : Nat) (parts : List (Nat × DV)) : Option (DV × List DE) :=
  match P.underlying t with
  | some (.slice e) =>
    match P.info? e, (if len = 0 then some [] else zeroD P e) with
    | some i, some z =>
      match fillR i.size (List.replicate len z) parts with
      | some rs => gd (len * i.size ≤ 16777216 ∧ (len = 0 ∨ 0 < i.size ∧ z.length = i.size)) (.own M.length, M ++ [.row e i.size rs])
      | none => none
    | _, _ => none
  | _ => none

theorem bsD_sound {P : Program} {E : EV} {w : World} {M M' : List DE} {t : TypeId} {len : Nat} {parts : List (Nat × DV)} {v : DV} (h : bsD P M t len parts = some (v, M')) (hH : HR E M w)
    (ps : Array (Nat × Value)) (hlen : ps.size = parts.length) (hr : ∀ (q : Nat) (x : Nat × DV) (y : Nat × Value), parts[q]? = some x → ps[q]? = some y → y.1 = x.1 ∧ VR E w x.2 y.2) :
    Did P (Instr.buildSlice t len ps) E w M M' v := by
  unfold bsD at h
  split at h
  · rename_i e ht
    split at h
    · rename_i i z hi hz
      split at h
      · rename_i rs hf
        obtain ⟨⟨h1, h2⟩, h3⟩ := gd_some h
        injection h3 with h3 h4; subst h3 h4
        have hps : ∀ (q : Nat) (x : Nat × DV) (y : Nat × Value), parts[q]? = some x → ps.toList[q]? = some y → y.1 = x.1 ∧ VR E w x.2 y.2 := fun q x y hq hy => hr q x y hq (by simpa using hy)
        have hl16 : ¬ (len * i.size > 16777216) := by omega
        by_cases h0 : len = 0
        · subst h0
          obtain ⟨as', a1, a2, a3, a4⟩ := fillR_sound (E := E) (w := w) parts ps.toList _ _ #[] hf (fun j q hj => by simp at hj) (by simp) (by simpa using hlen) hps
          simp only [List.length_replicate] at a2 a3
          refine did_row (w0 := w) (cap := 0) (cs := as') hH rfl rfl rfl rfl (by omega) (by simp [maxLen]) a2 a4 ?_
          rw [a3]
          simp [Instr.buildSlice, Sem.run_bind, run_und ht, run_size hi, show Array.range 0 = #[] from rfl, a1, newRow]
        · rcases h2 with h2 | ⟨h2, h5⟩
          · exact absurd h2 h0
          · simp only [h0, if_false] at hz
            unfold zeroD at hz
            rw [hi] at hz
            simp only at hz
            split at hz
            · rename_i zv hzz
              injection hz with hz; subst hz
              obtain ⟨as', a1, a2, a3, a4⟩ := fillR_sound (E := E) (w := w) parts ps.toList _ _ (madeCells zv.cells (len * i.size)) hf (made_RR h5 (Nat.le_refl _)) (by simp [size_madeCells]) (by simpa using hlen) hps
              simp only [List.length_replicate] at a2 a3
              have hml : len ≤ maxLen := by
                have : len * 1 ≤ len * i.size := Nat.mul_le_mul_left len h2
                simp only [maxLen]; omega
              refine did_row (w0 := w) (cap := len) (cs := as') hH rfl rfl rfl rfl (by omega) hml a2 a4 ?_
              have hne : ¬ (len * i.size = 0) := by
                have : len * 1 ≤ len * i.size := Nat.mul_le_mul_left len h2
                omega
              have hzr : (zeroValue e).run P w = .ok zv w := by simp [zeroValue, typeInfo, hi, hzz]
              rw [a3]
              have hmc : (Array.range (len * i.size)).map (zv.cells[· % zv.cells.size]!) = madeCells zv.cells (len * i.size) := rfl
              have hl16' : ¬ (len * i.size > 2 ^ 24) := by omega
              simp only [Instr.buildSlice, Sem.run_bind, run_und ht, run_size hi, Result.andThen_ok, hl16', hne, if_false, hzr, Sem.run_pure, hmc, a1, newRow, run_newObj_alloc]
            · cases hz
      · cases h
    · cases h
  · cases h

end Go.Proofs.YtkcelehlilppcaaGreat
