/- Regions that draw their order: that they come to what they come to in the order of the text. No condition. -/
import Derived.Test.YtkcelehlilppcaaGreatD26
set_option linter.unusedVariables false
set_option linter.unusedSimpArgs false
namespace Go.Proofs.YtkcelehlilppcaaGreat
open Go.RowKit Go.MapKept

/-! ### One operation -/
theorem xd1_rec {P : Program} {co : Co} {ops : Array Oper} {i : Nat} {t : List DV} {M : List DE} {rc : RC} {o : Oper} (hi : ops[i]? = some o) (h : xd1 P co ops i t M = some rc) :
    rc.dst = o.dst ∧ rc.n = M.length ∧ rc.looks = o.looksAt ops ∧ (rc.pure = true → rc.m = []) ∧ (rc.pure = false → rc.n ≤ rc.m.length) ∧ (∀ s ∈ rc.ch, s ∈ rc.fp) ∧ ∀ s ∈ rc.fp, s < rc.n := by
  unfold xd1 at h
  rw [hi] at h
  simp only at h
  split at h
  · cases h
  · injection h with h; subst h; exact ⟨rfl, rfl, rfl, fun _ => rfl, (fun h => by cases h), (fun s hs => by cases hs), fun s hs => by cases hs⟩
  · split at h
    · rename_i v hv
      split at hv
      · rename_i hall
        injection h with h; subst h
        refine ⟨rfl, rfl, rfl, fun _ => rfl, (fun h => by cases h), (fun s hs => by cases hs), fun s hs => ?_⟩
        have := List.all_eq_true.1 hall s hs
        simpa using this
      · cases hv
    · split at h
      · split at h
        · split at h
          · rename_i hl
            injection h with h; subst h
            exact ⟨rfl, rfl, rfl, (fun h => by cases h), (fun _ => hl), (fun s hs => (List.mem_filter.1 hs).1), fun s hs => by simpa using (List.mem_filter.1 hs).2⟩
          · cases h
        · cases h
      · cases h

theorem xd1_step {P : Program} {co : Co} (hco : CoOk P co) {ops : Array Oper} {i : Nat} {t tL : List DV} {M ML : List DE} {rc : RC} {o : Oper} {d : List XD} (hi : ops[i]? = some o) (h : xd1 P co ops i t M = some rc)
    (ht : ∀ d, (o.looksAt ops).contains d = true → t[d]? = tL[d]?) (hm : ∀ s ∈ rc.fp, M[s]? = ML[s]?)
    (hfree : ∀ (s : Nat) (x : DE), rc.n ≤ s → s < rc.m.length → ML[s]? = some x → x = .free)
    {E : EV} {a : Act} {w : World} (hA : AR E ⟨tL, ML, d⟩ a w) {n : Nat} {rnd : Option Nat} {Q : Exit → Act → World → Prop} {K : Act → World → Prop}
    (hK : ∀ E' a' w', AR E' ⟨rc.t tL, rc.M ML, d⟩ a' w' → XT ⟨w, E, ML, []⟩ E' (rc.M ML) w' → K a' w') : wpOpIn (WF rnd) n P ops Q i K a w := by
  have hlt := (xd1_rec hi h).2.2.2.2.2.2
  have hrn := (xd1_rec hi h).2.1
  unfold xd1 at h
  unfold wpOpIn
  rw [hi] at h
  simp only [hi] at h ⊢
  rw [wantD_congr ht, evR_congr ht, bevR_congr ht] at h
  split at h
  · cases h
  · rename_i hw
    injection h with h; subst h
    rw [wantD_sound hw hA.t]
    simp only [Bool.false_eq_true, if_false]
    exact ⟨fun _ _ => trivial, hK E _ w (hA.step hA.H (XT.refl _ _ _ _) o.dst .un) (XT.refl _ _ _ _)⟩
  · rename_i hw
    rw [wantD_sound hw hA.t]
    simp only [if_true]
    split at h
    · rename_i v hv
      split at hv
      · injection h with h; subst h
        simp only at hm
        rw [vop_local hm] at hv
        obtain ⟨u, h1, h2⟩ := vop_sound o hv (fun x => evR_rel hA.t (o.looksAt ops) x) hA.H
        have hnd : ∀ c, o.op ≠ .defer c := fun c hc => by
          rw [hc] at hv
          simp [vop] at hv
        refine ⟨fun _ _ => trivial, ?_⟩
        rw [Oper.semAt_eq _ _ o hnd, h1]
        exact hK E _ w (hA.step hA.H (XT.refl _ _ _ _) o.dst h2) (XT.refl _ _ _ _)
      · cases hv
    · split at h
      · rename_i hb
        split at h
        · rename_i v m' hx
          split at h
          · rename_i hl
            injection h with h; subst h
            simp only at hm hfree hlt
            have hmk : ∀ fp : List Nat, (∀ s ∈ fp, M[s]? = ML[s]?) → mask fp M.length M = mask fp M.length ML := fun fp hfp => mask_congr fun s hs hc => hfp s (by simpa using hc)
            rw [maskL_eq, hmk _ hm] at hx hb
            refine xeval_sound hco (nr := false) (fun h => by cases h) hx (fun x => bevR_rel hA.t M.length (o.looksAt ops) x) (hA.H.mask _ _ hb) (fun v1 M1 he E1 u w1 g1 g2 g3 => ?_) (fun y he => by cases he) (fun v1 M1 he => by cases he)
            injection he with he1 he2; subst he1 he2
            obtain ⟨E2, f1, f2, f3⟩ := frame hA.H hl (fun s x h1 h2 h3 => hfree s x h1 h2 h3) g1 g2
            rw [unmask_ch hl, ← chD_congr hm] at f1 f2
            have hRM : ∀ rc : RC, rc.pure = false → rc.M ML = unmask rc.ch rc.n ML rc.m := fun rc hp => by simp only [RC.M, hp, Bool.false_eq_true, if_false, unmaskL_eq]
            rw [hRM _ rfl] at hK
            exact hK E2 _ w1 (hA.step f1 f2 o.dst (g3.mono f3)) f2
          · cases h
        · cases h
      · cases h

/-! ### A longer memory -/
def Ext (M M' : List DE) : Prop := M.length ≤ M'.length ∧ ∀ s, s < M.length → M'[s]? = M[s]?

theorem Ext.eq {M M' : List DE} (h : Ext M M') (hl : M'.length = M.length) : M' = M := by
  apply List.ext_getElem?
  intro s
  rcases Nat.lt_or_ge s M.length with hs | hs
  · exact h.2 s hs
  · rw [List.getElem?_eq_none hs, List.getElem?_eq_none (by omega)]

theorem RC.M_len {rc : RC} {M : List DE} (hp : rc.pure = true → rc.m = []) : (rc.M M).length = max M.length rc.m.length := by
  unfold RC.M
  split
  · rename_i h; simp [hp h]
  · rw [unmaskL_eq, unmask_length]

theorem RC.M_ext {rc : RC} {M M' : List DE} (h : Ext M M') (hn : rc.n = M.length) (hp : rc.pure = true → rc.m = []) (hm : rc.m.length ≤ M'.length) : Ext (rc.M M) (rc.M M') := by
  refine ⟨?_, fun s hs => ?_⟩
  · have := h.1
    rw [RC.M_len hp, RC.M_len hp]; omega
  · rw [RC.M_len hp] at hs
    have h1 := h.1
    unfold RC.M
    split
    · rename_i hpu
      rw [hp hpu] at hs
      exact h.2 s (by simpa using hs)
    · rw [unmaskL_eq, unmaskL_eq, unmask_at (by omega)]
      unfold unmask
      rw [List.getElem?_map, List.getElem?_range (by omega)]
      simp only [Option.map_some, Option.some.injEq]
      split
      · rfl
      · rename_i hc
        have : s < M.length := by omega
        rw [List.getD_eq_getElem?_getD, List.getD_eq_getElem?_getD, h.2 s this]

theorem fT_id : ∀ (l : List RC) (i : Nat) (L : Nat → Bool) (t : List DV), (∀ j, i ≤ j → L j = false) → fT l i L t = t
  | [], _, _, _, _ => rfl
  | rc :: l, i, L, t, h => by
    simp only [fT, h i (Nat.le_refl _), Bool.false_eq_true, if_false]
    exact fT_id l (i + 1) L t fun j hj => h j (by omega)

theorem fM_id : ∀ (l : List RC) (i : Nat) (L : Nat → Bool) (M : List DE), (∀ j, i ≤ j → L j = false) → fM l i L M = M
  | [], _, _, _, _ => rfl
  | rc :: l, i, L, M, h => by
    simp only [fM, h i (Nat.le_refl _), Bool.false_eq_true, if_false]
    exact fM_id l (i + 1) L M fun j hj => h j (by omega)

/-- What stands of each record, in the order of the text. -/
theorem xds_inv {P : Program} {co : Co} {ops : Array Oper} : ∀ (l : List Nat) (t : List DV) (M : List DE) (rcs : List RC), (∀ i ∈ l, i < ops.size) → xds P co ops l t M = some rcs →
    rcs.length = l.length ∧ (∀ rc ∈ rcs, rc.m.length ≤ (rcs.foldl (fun M rc => rc.M M) M).length) ∧ M.length ≤ (rcs.foldl (fun M rc => rc.M M) M).length ∧
    ∀ (P0 : List DE) (i0 : Nat), Ext M P0 → (∀ rc ∈ rcs, rc.m.length ≤ P0.length) →
      (Ext (rcs.foldl (fun M rc => rc.M M) M) (fM rcs i0 (fun _ => true) P0) ∧ rcs.foldl (fun t rc => rc.t t) t = fT rcs i0 (fun _ => true) t) ∧
      ∀ (j i : Nat) (rc : RC), rcs[j]? = some rc → l[j]? = some i → ∃ M', xd1 P co ops i (fT rcs i0 (fun k => decide (k < i0 + j)) t) M' = some rc ∧ Ext M' (fM rcs i0 (fun k => decide (k < i0 + j)) P0) ∧
        M.length ≤ M'.length ∧ ∀ (k : Nat) (r : RC), k < j → rcs[k]? = some r → r.n ≤ M'.length ∧ r.m.length ≤ M'.length
  | [], t, M, rcs, _, h => by
    injection h with h; subst h
    refine ⟨rfl, fun rc hr => by simp at hr, Nat.le_refl _, fun P0 i0 hE _ => ⟨⟨hE, rfl⟩, fun j i rc hr => by simp at hr⟩⟩
  | i :: l, t, M, rcs, hlt, h => by
    unfold xds at h
    split at h
    · rename_i rc0 h0
      simp only [Option.map_eq_some_iff] at h
      obtain ⟨rcs', h1, rfl⟩ := h
      obtain ⟨o, ho⟩ : ∃ o, ops[i]? = some o := ⟨_, Array.getElem?_eq_getElem (hlt i (by simp))⟩
      obtain ⟨r1, r2, r3, r4, r5, r6, r7⟩ := xd1_rec ho h0
      obtain ⟨a1, a2, a3, a4⟩ := xds_inv l (rc0.t t) (rc0.M M) rcs' (fun q hq => hlt q (by simp [hq])) h1
      have hl0 := RC.M_len (rc := rc0) (M := M) r4
      refine ⟨by simp [a1], fun rc hr => ?_, ?_, fun P0 i0 hE hm => ?_⟩
      · simp only [List.foldl_cons]
        rcases List.mem_cons.1 hr with rfl | hr
        · omega
        · exact a2 rc hr
      · simp only [List.foldl_cons]; omega
      · have hm0 := hm rc0 (by simp)
        have hE1 := RC.M_ext hE r2 r4 hm0
        have hlen := RC.M_length hm0
        obtain ⟨b1, b2⟩ := a4 (rc0.M P0) (i0 + 1) hE1 (fun rc hr => by rw [hlen]; exact hm rc (by simp [hr]))
        refine ⟨⟨by simpa [fM] using b1.1, by simpa [fT] using b1.2⟩, fun j q rc hr hq => ?_⟩
        cases j with
        | zero =>
          simp only [List.getElem?_cons_zero, Option.some.injEq] at hr hq
          subst hr hq
          refine ⟨M, ?_, ?_, Nat.le_refl _, fun k r hk => by omega⟩
          · rw [fT_id _ _ _ _ (fun j hj => decide_eq_false (by omega))]; exact h0
          · rw [fM_id _ _ _ _ (fun j hj => decide_eq_false (by omega))]; exact hE
        | succ j =>
          simp only [List.getElem?_cons_succ] at hr hq
          obtain ⟨M', c1, c2, c3, c4⟩ := b2 j q rc hr hq
          have e0 : decide (i0 < i0 + (j + 1)) = true := decide_eq_true (by omega)
          have ef : (fun k => decide (k < i0 + (j + 1))) = fun k => decide (k < i0 + 1 + j) := by funext k; rw [show i0 + (j + 1) = i0 + 1 + j by omega]
          refine ⟨M', ?_, ?_, by omega, fun k r hk hr' => ?_⟩
          · simp only [fT, e0, if_true]; rw [ef]; exact c1
          · simp only [fM, e0, if_true]; rw [ef]; exact c2
          · cases k with
            | zero =>
              simp only [List.getElem?_cons_zero, Option.some.injEq] at hr'
              subst hr'
              omega
            | succ k => exact c4 k r (by omega) (by simpa using hr')
    · cases h

/-! ### One more -/
theorem fT_last {d : Nat} : ∀ (l : List RC) (i : Nat) (L : Nat → Bool) (t : List DV) (j : Nat) (rc : RC), l[j]? = some rc → L (i + j) = true → rc.dst = some d →
    (∀ (k : Nat) (r : RC), j < k → l[k]? = some r → L (i + k) = true → r.dst ≠ some d) → ∀ t', t'.length = t.length → (fT l i L t)[d]? = (rc.t t')[d]?
  | [], _, _, _, _, _, h, _, _, _, _, _ => by simp at h
  | r0 :: l, i, L, t, 0, rc, h, hL, hd, hk, t', ht => by
    simp only [List.getElem?_cons_zero, Option.some.injEq] at h
    subst h
    simp only [Nat.add_zero] at hL
    simp only [fT, hL, if_true]
    rw [fT_none l (i + 1) L _ fun k r hr hLk => hk (k + 1) r (by omega) (by simpa using hr) (by rw [show i + (k + 1) = i + 1 + k by omega]; exact hLk)]
    exact RC.t_same hd ht.symm
  | r0 :: l, i, L, t, j + 1, rc, h, hL, hd, hk, t', ht => by
    simp only [fT]
    refine fT_last l (i + 1) L _ j rc (by simpa using h) (by rw [show i + 1 + j = i + (j + 1) by omega]; exact hL) hd (fun k r hjk hr hLk => hk (k + 1) r (by omega) (by simpa using hr) (by rw [show i + (k + 1) = i + 1 + k by omega]; exact hLk)) t' ?_
    split
    · rw [RC.t_length]; exact ht
    · exact ht

theorem fM_last {s : Nat} : ∀ (l : List RC) (i : Nat) (L : Nat → Bool) (M : List DE) (j : Nat) (rc : RC), (∀ rc ∈ l, rc.m.length ≤ M.length) → s < M.length → l[j]? = some rc → L (i + j) = true → rc.writes s = true →
    (∀ (k : Nat) (r : RC), j < k → l[k]? = some r → L (i + k) = true → r.writes s = false) → ∀ M', M'.length = M.length → (fM l i L M)[s]? = (rc.M M')[s]?
  | [], _, _, _, _, _, _, _, h, _, _, _, _, _ => by simp at h
  | r0 :: l, i, L, M, 0, rc, hm, hs, h, hL, hd, hk, M', hM => by
    simp only [List.getElem?_cons_zero, Option.some.injEq] at h
    subst h
    simp only [Nat.add_zero] at hL
    simp only [fM, hL, if_true]
    have h0 := RC.M_length (hm r0 (by simp))
    rw [fM_none l (i + 1) L _ (fun r hr => by rw [h0]; exact hm r (by simp [hr])) (by rw [h0]; exact hs) fun k r hr hLk => hk (k + 1) r (by omega) (by simpa using hr) (by rw [show i + (k + 1) = i + 1 + k by omega]; exact hLk)]
    exact RC.M_same hd hs hM.symm
  | r0 :: l, i, L, M, j + 1, rc, hm, hs, h, hL, hd, hk, M', hM => by
    have l1 : (if L i then r0.M M else M).length = M.length := by split; exact RC.M_length (hm r0 (by simp)); rfl
    simp only [fM]
    exact fM_last l (i + 1) L _ j rc (fun r hr => by rw [l1]; exact hm r (by simp [hr])) (by rw [l1]; exact hs) (by simpa using h) (by rw [show i + 1 + j = i + (j + 1) by omega]; exact hL) hd (fun k r hjk hr hLk => hk (k + 1) r (by omega) (by simpa using hr) (by rw [show i + (k + 1) = i + 1 + k by omega]; exact hLk)) M' (by rw [l1]; exact hM)

/-! ### What stands ahead -/
theorem mem_insU {l : List Nat} {x y : Nat} : y ∈ insU l x ↔ y ∈ l ∨ y = x := by
  unfold insU
  split
  · rename_i h
    have : x ∈ l := by simpa using h
    exact ⟨.inl, fun h => h.elim id fun e => e ▸ this⟩
  · simp only [List.mem_cons]; exact ⟨fun h => h.symm, fun h => h.symm⟩

theorem mem_foldU {y : Nat} : ∀ (m l : List Nat), y ∈ m.foldl insU l ↔ y ∈ l ∨ y ∈ m
  | [], l => by simp
  | x :: m, l => by
    simp only [List.foldl_cons, mem_foldU m, mem_insU, List.mem_cons]
    exact ⟨fun h => h.elim (fun h => h.elim .inl fun e => .inr (.inl e)) fun h => .inr (.inr h), fun h => h.elim (fun h => .inl (.inl h)) fun h => h.elim (fun e => .inl (.inr e)) .inr⟩

theorem mem_foldF {y : Nat} {f : Nat → List Nat} : ∀ (m l : List Nat), y ∈ m.foldl (fun l j => (f j).foldl insU l) l ↔ y ∈ l ∨ ∃ j ∈ m, y ∈ f j
  | [], l => by simp
  | x :: m, l => by
    simp only [List.foldl_cons, mem_foldF m, mem_foldU, List.mem_cons, exists_eq_or_imp]
    exact or_assoc

theorem ancs_spec (ops : Array Oper) : ∀ (k : Nat) (acc : List (List Nat)), (ancs ops k acc).length = acc.length + k ∧ (∀ i, i < acc.length → (ancs ops k acc)[i]? = acc[i]?) ∧
    ∀ i, acc.length ≤ i → i < acc.length + k → ∀ x ∈ (ancs ops k acc).getD i [], x ∈ ahead ops i ∨ ∃ j ∈ ahead ops i, x ∈ (ancs ops k acc).getD j []
  | 0, acc => ⟨rfl, fun _ _ => rfl, fun i h1 h2 => by omega⟩
  | k + 1, acc => by
    have ih := ancs_spec ops k (acc ++ [(ahead ops acc.length).foldl (fun l j => (acc.getD j []).foldl insU l) (ahead ops acc.length)])
    simp only [List.length_append, List.length_cons, List.length_nil] at ih
    obtain ⟨h1, h2, h3⟩ := ih
    refine ⟨by simp only [ancs]; omega, fun i hi => ?_, fun i hi hk x hx => ?_⟩
    · simp only [ancs]; rw [h2 i (by omega), List.getElem?_append_left hi]
    · simp only [ancs] at hx ⊢
      rcases Nat.eq_or_lt_of_le hi with rfl | hlt
      · rw [List.getD_eq_getElem?_getD, h2 _ (by omega)] at hx
        simp only [List.getElem?_append_right (Nat.le_refl _), Nat.sub_self, List.getElem?_cons_zero, Option.getD_some, mem_foldF (f := fun j => acc.getD j [])] at hx
        rcases hx with hx | ⟨j, hj, hx⟩
        · exact .inl hx
        · refine .inr ⟨j, hj, ?_⟩
          have hjl : j < acc.length := by
            rcases Nat.lt_or_ge j acc.length with h | h
            · exact h
            · rw [List.getD_eq_getElem?_getD, List.getElem?_eq_none h] at hx; simp at hx
          rw [List.getD_eq_getElem?_getD, h2 j (by omega), List.getElem?_append_left hjl, ← List.getD_eq_getElem?_getD]
          exact hx
      · exact h3 i (by omega) (by omega) x hx

theorem mem_ahead {ops : Array Oper} {i j : Nat} {o : Oper} (ho : ops[i]? = some o) : j ∈ ahead ops i ↔ ∃ e ∈ o.after, Region.binds .any e = true ∧ e.on = j := by
  unfold ahead
  rw [ho]
  simp only [mem_foldU, List.not_mem_nil, false_or, List.mem_filterMap, Array.mem_toList_iff]
  constructor
  · rintro ⟨e, he, h⟩
    split at h
    · rename_i hb; injection h with h; exact ⟨e, he, hb, h⟩
    · cases h
  · rintro ⟨e, he, hb, h⟩
    exact ⟨e, he, by rw [if_pos hb, h]⟩

theorem not_meets {a b : RC} (h : meets a b = false) : (∀ d, a.dst = some d → b.looks.contains d = false ∧ b.dst ≠ some d) ∧ (∀ d, b.dst = some d → a.looks.contains d = false) ∧
    (∀ s, s ∈ b.fp → a.writes s = false) ∧ (∀ s, s ∈ a.fp → b.writes s = false) := by
  unfold meets at h
  simp only [Bool.or_eq_false_iff] at h
  obtain ⟨⟨⟨h1, h2⟩, h3⟩, h4⟩ := h
  refine ⟨fun d hd => ?_, fun d hd => ?_, fun s hs => ?_, fun s hs => ?_⟩
  · rw [hd] at h1
    simp only [Bool.or_eq_false_iff, beq_eq_false_iff_ne] at h1
    exact h1
  · rw [hd] at h2; exact h2
  · have := List.any_eq_false.1 h3 s hs
    simpa using this
  · have := List.any_eq_false.1 h4 s hs
    simpa using this

end Go.Proofs.YtkcelehlilppcaaGreat
