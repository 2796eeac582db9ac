/- Regions that draw their order: first lemmas. No condition. -/
import Derived.Test.YtkcelehlilppcaaGreatD25
set_option linter.unusedVariables false
set_option linter.unusedSimpArgs false
namespace Go.Proofs.YtkcelehlilppcaaGreat
open Go.RowKit Go.MapKept

theorem evR_rel {E : EV} {w : World} {t : List DV} {a : Act} (h : LR E w t a.tmps) (looks : List Nat) (x : Operand) : VR E w (evR looks t x) (a.eval x) := by
  cases x with
  | tmp i =>
    simp only [evR]
    split
    · exact ev_sound h (.tmp i)
    · exact .any _
  | const v => exact ev_sound h (.const v)
  | global g => exact ev_sound h (.global g)
  | func f => exact ev_sound h (.func f)

theorem bevR_rel {E : EV} {w : World} {t : List DV} {a : Act} (h : LR E w t a.tmps) (n : Nat) (looks : List Nat) (x : Operand) : VR (E.below n) w (bevR n looks t x) (a.eval x) := by
  unfold bevR
  split
  · rename_i hb; exact (evR_rel h looks x).bel hb
  · exact .any _

/-- What is seen of tmps that agree where one looks. -/
theorem evR_congr {looks : List Nat} {t t' : List DV} (h : ∀ d, looks.contains d = true → t[d]? = t'[d]?) : evR looks t = evR looks t' := by
  funext x
  cases x with
  | tmp i =>
    simp only [evR]
    split
    · rename_i hc; rw [List.getD_eq_getElem?_getD, List.getD_eq_getElem?_getD, h i hc]
    · rfl
  | _ => rfl

theorem bevR_congr {n : Nat} {looks : List Nat} {t t' : List DV} (h : ∀ d, looks.contains d = true → t[d]? = t'[d]?) : bevR n looks t = bevR n looks t' := by
  funext x
  simp only [bevR, evR_congr h]

theorem wantD_congr {ops : Array Oper} {o : Oper} {t t' : List DV} (h : ∀ d, (o.looksAt ops).contains d = true → t[d]? = t'[d]?) : wantD ops t o = wantD ops t' o := by
  unfold wantD
  cases hg : o.guard with
  | none => rfl
  | some p =>
    obtain ⟨j, want⟩ := p
    simp only
    cases hd : (ops[j]?).bind (·.dst) with
    | none => rfl
    | some d =>
      simp only [Option.bind_some]
      rw [h d (by simp [Oper.looksAt, hg, hd])]

/-! Reading operations look at the numbers in their operands. -/
theorem ldD_local {P : Program} {M M' : List DE} {t : TypeId} {x : DV} (h : ∀ s ∈ numV x, M[s]? = M'[s]?) : ldD P M t x = ldD P M' t x := by
  cases x <;> try rfl
  · rename_i id off; simp only [ldD, h id (by simp [numV])]
  · rename_i id k j off; simp only [ldD, h id (by simp [numV])]

theorem iaD_local {P : Program} {M M' : List DE} {t : TypeId} {x y : DV} (h : ∀ s ∈ numV x, M[s]? = M'[s]?) : iaD P M t x y = iaD P M' t x y := by
  cases x <;> try rfl
  rename_i id; simp only [iaD, h id (by simp [numV])]

theorem lnD_local {P : Program} {M M' : List DE} {t : TypeId} {x : DV} (h : ∀ s ∈ numV x, M[s]? = M'[s]?) : lnD P M t x = lnD P M' t x := by
  cases x <;> try rfl
  · rename_i id; simp only [lnD, h id (by simp [numV])]
  · rename_i id; simp only [lnD, h id (by simp [numV])]

theorem mem_opsNum {r : Operand → DV} {op : Op} {x : Operand} {s : Nat} (hx : x ∈ op.operands.toList) (hs : s ∈ numV (r x)) : s ∈ opsNum r op := List.mem_flatMap.2 ⟨x, hx, hs⟩

theorem vop_local {P : Program} {M M' : List DE} {r : Operand → DV} {op : Op} (h : ∀ s ∈ opsNum r op, M[s]? = M'[s]?) : vop P M r op = vop P M' r op := by
  have hx : ∀ x, x ∈ op.operands.toList → ∀ s ∈ numV (r x), M[s]? = M'[s]? := fun x hx s hs => h s (mem_opsNum hx hs)
  unfold vop
  split <;> first
    | rfl
    | exact ldD_local (hx _ (by simp [Op.operands]))
    | exact iaD_local (hx _ (by simp [Op.operands]))
    | exact lnD_local (hx _ (by simp [Op.operands, Call.operands]))

theorem mask_congr {fp : List Nat} {n : Nat} {M M' : List DE} (h : ∀ s, s < n → fp.contains s = true → M[s]? = M'[s]?) : mask fp n M = mask fp n M' := by
  unfold mask
  apply List.map_congr_left
  intro j hj
  rw [List.mem_range] at hj
  split
  · rename_i hc; rw [List.getD_eq_getElem?_getD, List.getD_eq_getElem?_getD, h j hj hc]
  · rfl

mutual
theorem sameP_eq : ∀ {a b : PD}, sameP a b = true → a = b
  | .bool a, .bool b, h => by simp [sameP] at h; rw [h]
  | .int k a, .int k' b, h => by simp [sameP] at h; rw [h.1, h.2]
  | .str a, .str b, h => by simp [sameP] at h; rw [h]
  | .nl, .nl, _ => rfl
  | .sl k rs, .sl k' rs', h => by simp [sameP] at h; rw [h.1, samePss_eq h.2]
  | .bool _, .int .., h | .bool _, .str _, h | .bool _, .nl, h | .bool _, .sl .., h | .int .., .bool _, h | .int .., .str _, h | .int .., .nl, h | .int .., .sl .., h
  | .str _, .bool _, h | .str _, .int .., h | .str _, .nl, h | .str _, .sl .., h | .nl, .bool _, h | .nl, .int .., h | .nl, .str _, h | .nl, .sl .., h
  | .sl .., .bool _, h | .sl .., .int .., h | .sl .., .str _, h | .sl .., .nl, h => by simp [sameP] at h
theorem samePs_eq : ∀ {a b : List PD}, samePs a b = true → a = b
  | [], [], _ => rfl
  | x :: l, y :: m, h => by simp only [samePs, Bool.and_eq_true] at h; rw [sameP_eq h.1, samePs_eq h.2]
  | [], _ :: _, h | _ :: _, [], h => by simp [samePs] at h
theorem samePss_eq : ∀ {a b : List (List PD)}, samePss a b = true → a = b
  | [], [], _ => rfl
  | x :: l, y :: m, h => by simp only [samePss, Bool.and_eq_true] at h; rw [samePs_eq h.1, samePss_eq h.2]
  | [], _ :: _, h | _ :: _, [], h => by simp [samePss] at h
end

mutual
theorem sameV_eq : ∀ {a b : DV}, sameV a b = true → a = b := fun {a b} h => by
  cases a <;> cases b <;> first
    | rfl
    | (simp [sameV] at h; done)
    | (simp only [sameV] at h; rw [sameP_eq h])
    | (simp only [sameV] at h; rw [samePs_eq h])
    | (simp only [sameV, decide_eq_true_eq] at h; rw [h])
    | (simp only [sameV, Bool.and_eq_true, decide_eq_true_eq] at h; rw [h.1, h.2]; done)
    | (simp only [sameV, Bool.and_eq_true, decide_eq_true_eq] at h; rw [h.1.1.1, h.1.1.2, h.1.2, h.2]; done)
    | (simp only [sameV, Bool.and_eq_true, decide_eq_true_eq] at h; rw [h.1.1, sameVs_eq h.1.2, sameVs_eq h.2])
    | (simp only [sameV, Bool.and_eq_true, decide_eq_true_eq] at h; rw [h.1, sameV_eq h.2])
    | (simp only [sameV] at h; rw [sameVs_eq h])
theorem sameVs_eq : ∀ {a b : List DV}, sameVs a b = true → a = b
  | [], [], _ => rfl
  | x :: l, y :: m, h => by simp only [sameVs, Bool.and_eq_true] at h; rw [sameV_eq h.1, sameVs_eq h.2]
  | [], _ :: _, h | _ :: _, [], h => by simp [sameVs] at h
end

theorem sameRows_eq : ∀ {a b : List (List DV)}, sameRows a b = true → a = b
  | [], [], _ => rfl
  | x :: l, y :: m, h => by simp only [sameRows, Bool.and_eq_true] at h; rw [sameVs_eq h.1, sameRows_eq h.2]
  | [], _ :: _, h | _ :: _, [], h => by simp [sameRows] at h

theorem sameEs_eq : ∀ {a b : List (DV × DV × Nat)}, sameEs a b = true → a = b
  | [], [], _ => rfl
  | (x1, x2, x3) :: l, (y1, y2, y3) :: m, h => by
    simp only [sameEs, Bool.and_eq_true, decide_eq_true_eq] at h
    rw [sameV_eq h.1.1.1, sameV_eq h.1.1.2, h.1.2, sameEs_eq h.2]
  | [], _ :: _, h | _ :: _, [], h => by simp [sameEs] at h

theorem sameE_eq {a b : DE} (h : sameE a b = true) : a = b ∧ a ≠ .dead := by
  unfold sameE at h
  split at h
  · exact ⟨by rw [sameVs_eq h], by simp⟩
  · simp only [Bool.and_eq_true, decide_eq_true_eq] at h; exact ⟨by rw [h.1.1, h.1.2, sameRows_eq h.2], by simp⟩
  · simp only [Bool.and_eq_true, decide_eq_true_eq] at h; exact ⟨by rw [h.1, sameEs_eq h.2], by simp⟩
  · simp only [Bool.and_eq_true, decide_eq_true_eq] at h; exact ⟨by rw [h.1.1.1, h.1.1.2, h.1.2, h.2], by simp⟩
  · rename_i x y; exact ⟨by rw [show x = y from by simpa using h], by simp⟩
  · cases h

/-- What a step that saw a part has not changed. -/
theorem unmask_ch {fp : List Nat} {n : Nat} {M m : List DE} (hn : n ≤ m.length) : unmask fp n M m = unmask (chD fp M m) n M m := by
  unfold unmask
  apply List.map_congr_left
  intro s _
  by_cases h1 : n ≤ s ∧ s < m.length
  · simp [h1]
  · by_cases h2 : fp.contains s = true ∧ s < n
    · by_cases h3 : (chD fp M m).contains s = true
      · simp only [h1, h2.1, h2.2, h3, and_self, or_true, if_true]
      · rw [if_pos (.inr h2), if_neg (by rintro (h | h); exact h1 h; exact h3 h.1)]
        have hsame : sameE (M.getD s .dead) (m.getD s .dead) = true := by
          cases hs : sameE (M.getD s .dead) (m.getD s .dead) with
          | true => rfl
          | false =>
            exfalso; apply h3
            unfold chD
            simp only [List.contains_iff_mem, List.mem_filter, hs, Bool.not_false, and_true]
            simpa using h2.1
        exact (sameE_eq hsame).1.symm
    · have h3 : ¬ ((chD fp M m).contains s = true ∧ s < n) := fun h => h2 ⟨by
        have := h.1
        unfold chD at this
        simp only [List.contains_iff_mem, List.mem_filter] at this
        simpa using this.1, h.2⟩
      rw [if_neg (by rintro (h | h); exact h1 h; exact h2 h), if_neg (by rintro (h | h); exact h1 h; exact h3 h)]

theorem chD_congr {fp : List Nat} {M M' m : List DE} (h : ∀ s ∈ fp, M[s]? = M'[s]?) : chD fp M m = chD fp M' m := by
  unfold chD
  apply List.filter_congr
  intro s hs
  simp only [List.getD_eq_getElem?_getD, h s hs]

/-- A draw changes nothing that is looked at. -/
theorem AR.drew {E : EV} {st : XS} {a : Act} {w : World} (hA : AR E st a w) : AR E st a w.drew ∧ XT ⟨w, E, st.M, []⟩ E st.M w.drew := by
  have hX : XT ⟨w, E, st.M, []⟩ E st.M w.drew := ⟨rfl, rfl, rfl, Nat.le_refl _, fun _ _ _ => rfl, fun _ h => h, fun _ h => .inl h, fun _ _ => ⟨rfl, rfl, rfl⟩, fun _ h => h, fun i o h hl => .inr (.of h hl), fun _ h => .inl h, fun _ o h hf => ⟨o, h, hf⟩⟩
  have hE : EE E E w w.drew := EE.of hA.H hX
  refine ⟨⟨⟨fun i o h => ?_, hA.H.lt, hA.H.inj, hA.H.al, hA.H.la, hA.H.slt⟩, hA.t.mono hE, hA.d.mono hE⟩, hX⟩
  by_cases hl : o.live
  · exact (hA.H.objs i o h).keep hE (hA.H.la i o h hl) rfl
  · cases o <;> first | trivial | exact absurd trivial hl

/-! ### The state when some operations are done -/
def fT : List RC → Nat → (Nat → Bool) → List DV → List DV
  | [], _, _, t => t
  | rc :: l, i, L, t => fT l (i + 1) L (if L i then rc.t t else t)

theorem RC.t_length (rc : RC) (t : List DV) : (rc.t t).length = t.length := by
  unfold RC.t putD
  split <;> simp

theorem RC.t_other {rc : RC} {t : List DV} {d : Nat} (h : rc.dst ≠ some d) : (rc.t t)[d]? = t[d]? := by
  unfold RC.t putD
  split
  · rename_i e v he
    rw [List.getElem?_set, if_neg (fun hd => h (by rw [he, hd]))]
  · rfl

theorem RC.t_same {rc : RC} {t t' : List DV} {d : Nat} (h : rc.dst = some d) (hl : t.length = t'.length) : (rc.t t)[d]? = (rc.t t')[d]? := by
  unfold RC.t putD
  rw [h]
  simp only [List.getElem?_set, if_true, hl]

theorem fT_length : ∀ (l : List RC) (i : Nat) (L : Nat → Bool) (t : List DV), (fT l i L t).length = t.length
  | [], _, _, _ => rfl
  | rc :: l, i, L, t => by
    simp only [fT]
    rw [fT_length l]
    split
    · exact rc.t_length t
    · rfl

/-- Only operations that write there matter. -/
theorem fT_congr {d : Nat} : ∀ (l : List RC) (i : Nat) (L L' : Nat → Bool) (t t' : List DV), t.length = t'.length → t[d]? = t'[d]? →
    (∀ (j : Nat) (rc : RC), l[j]? = some rc → L (i + j) ≠ L' (i + j) → rc.dst ≠ some d) → (fT l i L t)[d]? = (fT l i L' t')[d]?
  | [], _, _, _, _, _, _, h, _ => h
  | rc :: l, i, L, L', t, t', hl, h, hj => by
    simp only [fT]
    have h0 := hj 0 rc rfl
    refine fT_congr l (i + 1) L L' _ _ ?_ ?_ fun j rc' hr hne => hj (j + 1) rc' hr (by rw [show i + (j + 1) = i + 1 + j by omega]; exact hne)
    · split <;> split <;> simp only [RC.t_length, hl]
    · simp only [Nat.add_zero] at h0
      by_cases hd : rc.dst = some d
      · have he : L i = L' i := Decidable.byContradiction fun hne => h0 hne hd
        rw [he]
        split
        · exact RC.t_same hd hl
        · exact h
      · split <;> split <;> simp only [RC.t_other hd, h]

theorem RC.M_length {rc : RC} {M : List DE} (h : rc.m.length ≤ M.length) : (rc.M M).length = M.length := by
  unfold RC.M
  split
  · rfl
  · rw [unmaskL_eq, unmask_length]; omega

theorem unmask_at {fp : List Nat} {n : Nat} {M m : List DE} {s : Nat} (h : s < M.length) : (unmask fp n M m)[s]? = some (if n ≤ s ∧ s < m.length ∨ fp.contains s = true ∧ s < n then m.getD s .dead else M.getD s .dead) := by
  unfold unmask
  rw [List.getElem?_map, List.getElem?_range (by omega)]
  rfl

theorem RC.M_other {rc : RC} {M : List DE} {s : Nat} (h : rc.writes s = false) (hs : s < M.length) : (rc.M M)[s]? = M[s]? := by
  unfold RC.M
  split
  · rfl
  · rename_i hp
    rw [unmaskL_eq, unmask_at hs, if_neg, List.getD_eq_getElem?_getD, List.getElem?_eq_getElem hs]
    · rfl
    · simp only [RC.writes, hp, Bool.not_false, Bool.true_and, Bool.or_eq_false_iff, Bool.and_eq_false_imp, decide_eq_true_eq, decide_eq_false_iff_not] at h
      rintro (⟨h1, h2⟩ | ⟨h1, h2⟩)
      · exact h.2 h1 h2
      · exact h.1 h1 h2

theorem RC.M_same {rc : RC} {M M' : List DE} {s : Nat} (h : rc.writes s = true) (hs : s < M.length) (hl : M.length = M'.length) : (rc.M M)[s]? = (rc.M M')[s]? := by
  simp only [RC.writes, Bool.and_eq_true, Bool.not_eq_true', Bool.or_eq_true, decide_eq_true_eq] at h
  obtain ⟨hp, h⟩ := h
  have hc : rc.n ≤ s ∧ s < rc.m.length ∨ rc.ch.contains s = true ∧ s < rc.n := h.symm
  unfold RC.M
  simp only [hp, Bool.false_eq_true, if_false]
  rw [unmaskL_eq, unmaskL_eq, unmask_at hs, unmask_at (by omega), if_pos hc, if_pos hc]

def fM : List RC → Nat → (Nat → Bool) → List DE → List DE
  | [], _, _, M => M
  | rc :: l, i, L, M => fM l (i + 1) L (if L i then rc.M M else M)

theorem fM_length : ∀ (l : List RC) (i : Nat) (L : Nat → Bool) (M : List DE), (∀ rc ∈ l, rc.m.length ≤ M.length) → (fM l i L M).length = M.length
  | [], _, _, _, _ => rfl
  | rc :: l, i, L, M, h => by
    have h0 : (if L i then rc.M M else M).length = M.length := by
      split
      · exact RC.M_length (h rc (by simp))
      · rfl
    simp only [fM]
    rw [fM_length l (i + 1) L _ (fun r hr => by rw [h0]; exact h r (by simp [hr])), h0]

/-- Only operations that write there matter. -/
theorem fM_congr {s : Nat} : ∀ (l : List RC) (i : Nat) (L L' : Nat → Bool) (M M' : List DE), (∀ rc ∈ l, rc.m.length ≤ M.length) → M.length = M'.length → s < M.length → M[s]? = M'[s]? →
    (∀ (j : Nat) (rc : RC), l[j]? = some rc → L (i + j) ≠ L' (i + j) → rc.writes s = false) → (fM l i L M)[s]? = (fM l i L' M')[s]?
  | [], _, _, _, _, _, _, _, _, h, _ => h
  | rc :: l, i, L, L', M, M', hm, hl, hs, h, hj => by
    simp only [fM]
    have h0 := hj 0 rc rfl
    have l1 : (if L i then rc.M M else M).length = M.length := by split; exact RC.M_length (hm rc (by simp)); rfl
    have l2 : (if L' i then rc.M M' else M').length = M.length := by
      split
      · rw [RC.M_length (by rw [← hl]; exact hm rc (by simp)), hl]
      · exact hl.symm
    refine fM_congr l (i + 1) L L' _ _ (fun r hr => by rw [l1]; exact hm r (by simp [hr])) (by rw [l1, l2]) (by rw [l1]; exact hs) ?_ fun j rc' hr hne => hj (j + 1) rc' hr (by rw [show i + (j + 1) = i + 1 + j by omega]; exact hne)
    simp only [Nat.add_zero] at h0
    cases hw : rc.writes s with
    | true =>
      have he : L i = L' i := Decidable.byContradiction fun hne => by rw [h0 hne] at hw; cases hw
      rw [he]
      split
      · exact RC.M_same hw hs hl
      · exact h
    | false =>
      have e1 := RC.M_other hw hs
      have e2 := RC.M_other (M := M') hw (by omega)
      split <;> split <;> simp only [e1, e2, h]

theorem fT_none {d : Nat} : ∀ (l : List RC) (i : Nat) (L : Nat → Bool) (t : List DV), (∀ (j : Nat) (rc : RC), l[j]? = some rc → L (i + j) = true → rc.dst ≠ some d) → (fT l i L t)[d]? = t[d]?
  | [], _, _, _, _ => rfl
  | rc :: l, i, L, t, h => by
    simp only [fT]
    rw [fT_none l (i + 1) L _ fun j r hr hL => h (j + 1) r hr (by rw [show i + (j + 1) = i + 1 + j by omega]; exact hL)]
    split
    · rename_i hL; exact RC.t_other (h 0 rc rfl hL)
    · rfl

theorem fM_none {s : Nat} : ∀ (l : List RC) (i : Nat) (L : Nat → Bool) (M : List DE), (∀ rc ∈ l, rc.m.length ≤ M.length) → s < M.length → (∀ (j : Nat) (rc : RC), l[j]? = some rc → L (i + j) = true → rc.writes s = false) → (fM l i L M)[s]? = M[s]?
  | [], _, _, _, _, _, _ => rfl
  | rc :: l, i, L, M, hm, hs, h => by
    have l1 : (if L i then rc.M M else M).length = M.length := by split; exact RC.M_length (hm rc (by simp)); rfl
    simp only [fM]
    rw [fM_none l (i + 1) L _ (fun r hr => by rw [l1]; exact hm r (by simp [hr])) (by rw [l1]; exact hs) fun j r hr hL => h (j + 1) r hr (by rw [show i + (j + 1) = i + 1 + j by omega]; exact hL)]
    split
    · rename_i hL; exact RC.M_other (h 0 rc rfl hL) hs
    · rfl

end Go.Proofs.YtkcelehlilppcaaGreat
