/- Regions that draw their order: any order. No condition. -/
import Derived.Test.YtkcelehlilppcaaGreatD27
set_option linter.unusedVariables false
set_option linter.unusedSimpArgs false
namespace Go.Proofs.YtkcelehlilppcaaGreat
open Go.RowKit Go.MapKept

structure Apart (a b : RC) : Prop where
  l1 : ∀ d, a.dst = some d → b.looks.contains d = false
  l2 : ∀ d, b.dst = some d → a.looks.contains d = false
  d : ∀ d, a.dst = some d → b.dst ≠ some d
  w1 : ∀ s, s ∈ b.fp → a.writes s = false
  w2 : ∀ s, s ∈ a.fp → b.writes s = false

theorem Apart.symm {a b : RC} (h : Apart a b) : Apart b a := ⟨h.l2, h.l1, fun d hb ha => h.d d ha hb, h.w2, h.w1⟩

theorem Apart.of {a b : RC} (h : meets a b = false) : Apart a b := by
  obtain ⟨h1, h2, h3, h4⟩ := not_meets h
  exact ⟨fun d hd => (h1 d hd).1, h2, fun d hd => (h1 d hd).2, h3, h4⟩

theorem ok_pair {an : List (List Nat)} {rcs : List RC} (h : okPairs an rcs = true) {i j : Nat} {a b : RC} (hj : rcs[j]? = some a) (hi : rcs[i]? = some b) (hlt : j < i) : j ∈ an.getD i [] ∨ Apart a b := by
  unfold okPairs at h
  have hi' : i < rcs.length := (List.getElem?_eq_some_iff.1 hi).1
  have h1 := List.all_eq_true.1 (List.all_eq_true.1 h i (List.mem_range.2 hi')) j (List.mem_range.2 hlt)
  rw [hj, hi] at h1
  simp only [Bool.or_eq_true, Bool.not_eq_true'] at h1
  rcases h1 with h1 | h1
  · exact .inl (by simpa using h1)
  · exact .inr (.of h1)

theorem writes_iff {rc : RC} {s : Nat} : rc.writes s = true ↔ rc.pure = false ∧ (s ∈ rc.ch ∧ s < rc.n ∨ rc.n ≤ s ∧ s < rc.m.length) := by
  unfold RC.writes
  simp only [Bool.and_eq_true, Bool.not_eq_true', Bool.or_eq_true, decide_eq_true_eq, List.contains_iff_mem]

theorem fT_agree : ∀ (l : List RC) (i : Nat) (L L' : Nat → Bool) (t : List DV), (∀ j, j < l.length → L (i + j) = L' (i + j)) → fT l i L t = fT l i L' t
  | [], _, _, _, _, _ => rfl
  | rc :: l, i, L, L', t, h => by
    have h0 := h 0 (by simp)
    simp only [Nat.add_zero] at h0
    simp only [fT, h0]
    exact fT_agree l (i + 1) L L' _ fun j hj => by rw [show i + 1 + j = i + (j + 1) by omega]; exact h (j + 1) (by simpa using hj)

theorem fM_agree : ∀ (l : List RC) (i : Nat) (L L' : Nat → Bool) (M : List DE), (∀ j, j < l.length → L (i + j) = L' (i + j)) → fM l i L M = fM l i L' M
  | [], _, _, _, _, _ => rfl
  | rc :: l, i, L, L', M, h => by
    have h0 := h 0 (by simp)
    simp only [Nat.add_zero] at h0
    simp only [fM, h0]
    exact fM_agree l (i + 1) L L' _ fun j hj => by rw [show i + 1 + j = i + (j + 1) by omega]; exact h (j + 1) (by simpa using hj)

theorem one_more {an : List (List Nat)} {rcs : List RC} {t0 : List DV} {P0 M' : List DE} {i q : Nat} {rc : RC} {L L' : Nat → Bool} (hok : okPairs an rcs = true) (hi : rcs[i]? = some rc) (hLi : L i = false)
    (hcl1 : ∀ j ∈ an.getD i [], L j = true) (hcl2 : ∀ j, L j = true → i ∉ an.getD j []) (hmP : ∀ r ∈ rcs, r.m.length ≤ P0.length) (hsub : ∀ r ∈ rcs, ∀ s ∈ r.ch, s ∈ r.fp) (hfl : ∀ s ∈ rc.fp, s < rc.n)
    (hM' : Ext M' (fM rcs 0 (fun k => decide (k < i)) P0)) (hn : rc.n = M'.length) (hprev : ∀ (k : Nat) (r : RC), k < i → rcs[k]? = some r → r.n ≤ M'.length ∧ r.m.length ≤ M'.length)
    (hlater : ∀ (k : Nat) (r : RC), i < k → rcs[k]? = some r → rc.m.length ≤ r.n) (hp : rc.pure = true → rc.m = []) (hP0 : ∀ (s : Nat) (x : DE), q ≤ s → P0[s]? = some x → x = .free) (hq : q ≤ M'.length)
    (hL' : ∀ k, k ≠ i → L' k = L k) (hL'i : L' i = true) :
    (∀ d, rc.looks.contains d = true → (fT rcs 0 (fun k => decide (k < i)) t0)[d]? = (fT rcs 0 L t0)[d]?) ∧ (∀ s ∈ rc.fp, M'[s]? = (fM rcs 0 L P0)[s]?) ∧
    (∀ (s : Nat) (x : DE), rc.n ≤ s → s < rc.m.length → (fM rcs 0 L P0)[s]? = some x → x = .free) ∧ rc.t (fT rcs 0 L t0) = fT rcs 0 L' t0 ∧ rc.M (fM rcs 0 L P0) = fM rcs 0 L' P0 := by
  have hlen : ∀ L, (fM rcs 0 L P0).length = P0.length := fun L => fM_length rcs 0 L P0 hmP
  have hM'len : M'.length ≤ P0.length := by rw [← hlen (fun k => decide (k < i))]; exact hM'.1
  have behind : ∀ (j : Nat) (r : RC), i < j → rcs[j]? = some r → L j = true → Apart rc r := fun j r hj hr hL => (ok_pair hok hi hr hj).resolve_left (hcl2 j hL)
  have front : ∀ (j : Nat) (r : RC), j < i → rcs[j]? = some r → L j = false → Apart r rc := fun j r hj hr hL => (ok_pair hok hr hi hj).resolve_left fun hm => by rw [hcl1 j hm] at hL; cases hL
  have apart : ∀ (j : Nat) (r : RC), rcs[j]? = some r → (decide (j < i)) ≠ L j → Apart r rc := fun j r hr hne => by
    rcases Nat.lt_trichotomy j i with h | h | h
    · refine front j r h hr ?_
      rw [decide_eq_true h] at hne
      cases hL : L j with
      | false => rfl
      | true => exact absurd hL.symm hne
    · subst h; rw [hLi, decide_eq_false (by omega)] at hne; exact absurd rfl hne
    · refine (behind j r h hr ?_).symm
      rw [decide_eq_false (by omega)] at hne
      cases hL : L j with
      | true => rfl
      | false => exact absurd hL.symm hne
  refine ⟨?_, ?_, ?_, ?_, ?_⟩
  · refine fun d hd => fT_congr rcs 0 _ _ t0 t0 rfl rfl fun j r hr hne hdst => ?_
    simp only [Nat.zero_add] at hne
    have := (apart j r hr hne).l1 d hdst
    rw [hd] at this; cases this
  · intro s hc
    have hs := hfl s hc
    rw [hn] at hs
    rw [← hM'.2 s hs]
    refine fM_congr rcs 0 _ _ P0 P0 hmP rfl (by omega) rfl fun j r hr hne => ?_
    simp only [Nat.zero_add] at hne
    exact (apart j r hr hne).w1 s hc
  · intro s x h1 h2 hx
    have hsP : s < P0.length := Nat.lt_of_lt_of_le h2 (hmP rc (List.mem_of_getElem? hi))
    rw [fM_none rcs 0 L P0 hmP hsP fun j r hr hLj => ?_] at hx
    · exact hP0 s x (by omega) hx
    · simp only [Nat.zero_add] at hLj
      cases hw : r.writes s with
      | false => rfl
      | true =>
        exfalso
        obtain ⟨_, hw⟩ := writes_iff.1 hw
        rcases Nat.lt_trichotomy j i with h | h | h
        · have := hprev j r h hr; omega
        · subst h; rw [hLi] at hLj; cases hLj
        · have h3 := hlater j r h hr
          have hwi : rc.writes s = true := writes_iff.2 ⟨by
            cases hpu : rc.pure with
            | false => rfl
            | true => rw [hp hpu] at h2; simp at h2, .inr ⟨h1, h2⟩⟩
          rcases hw with ⟨hw, _⟩ | ⟨hw, _⟩
          · have := (behind j r h hr hLj).w1 s (hsub r (List.mem_of_getElem? hr) s hw)
            rw [hwi] at this; cases this
          · omega
  · apply List.ext_getElem?
    intro d
    by_cases hd : rc.dst = some d
    · rw [fT_last rcs 0 L' t0 i rc hi (by simpa using hL'i) hd (fun k r hk hr hLk => (behind k r hk hr (by rw [← hL' k (by omega)]; simpa using hLk)).d d hd) (fT rcs 0 L t0) (fT_length _ _ _ _)]
    · rw [RC.t_other hd]
      refine fT_congr rcs 0 L L' t0 t0 rfl rfl fun j r hr hne => ?_
      simp only [Nat.zero_add] at hne
      have hji : j = i := Decidable.byContradiction fun h => hne (hL' j h).symm
      subst hji
      rw [hi] at hr; injection hr with hr; subst hr; exact hd
  · have hl1 : (rc.M (fM rcs 0 L P0)).length = P0.length := by rw [RC.M_length (by rw [hlen]; exact hmP rc (List.mem_of_getElem? hi)), hlen]
    apply List.ext_getElem?
    intro s
    rcases Nat.lt_or_ge s P0.length with hs | hs
    · cases hw : rc.writes s with
      | true =>
        rw [fM_last rcs 0 L' P0 i rc hmP hs hi (by simpa using hL'i) hw (fun k r hk hr hLk => ?_) (fM rcs 0 L P0) (hlen L)]
        have hLk' : L k = true := by rw [← hL' k (by omega)]; simpa using hLk
        have ha := behind k r hk hr hLk'
        obtain ⟨_, hw'⟩ := writes_iff.1 hw
        rcases hw' with ⟨h1, _⟩ | ⟨h1, h2⟩
        · exact ha.w2 s (hsub rc (List.mem_of_getElem? hi) s h1)
        · cases hr' : r.writes s with
          | false => rfl
          | true =>
            obtain ⟨_, hw2⟩ := writes_iff.1 hr'
            rcases hw2 with ⟨h3, _⟩ | ⟨h3, _⟩
            · have := ha.w1 s (hsub r (List.mem_of_getElem? hr) s h3); rw [hw] at this; cases this
            · have := hlater k r hk hr; omega
      | false =>
        rw [RC.M_other hw (by rw [hlen]; exact hs)]
        refine fM_congr rcs 0 L L' P0 P0 hmP rfl hs rfl fun j r hr hne => ?_
        simp only [Nat.zero_add] at hne
        have hji : j = i := Decidable.byContradiction fun h => hne (hL' j h).symm
        subst hji
        rw [hi] at hr; injection hr with hr; subst hr; exact hw
    · rw [List.getElem?_eq_none (by omega), List.getElem?_eq_none (by rw [hlen]; exact hs)]

/-- A longer memory. -/
theorem pad_rel {E : EV} {w : World} : ∀ (q : Nat) {M : List DE}, HR E M w → HR E (M ++ List.replicate q .free) w ∧ XT ⟨w, E, M, []⟩ E (M ++ List.replicate q .free) w
  | 0, M, hH => by simp only [List.replicate_zero, List.append_nil]; exact ⟨hH, XT.refl _ _ _ _⟩
  | q + 1, M, hH => by
    obtain ⟨h1, h2⟩ := pad_rel q hH.ext
    rw [show M ++ List.replicate (q + 1) DE.free = (M ++ [.free]) ++ List.replicate q .free by simp [List.replicate_succ]]
    exact ⟨h1, h2.unext⟩

theorem getD_in {listed : Array Bool} {i : Nat} (h : i < listed.size) : listed.getD i true = listed.getD i false := by
  simp [Array.getElem?_eq_getElem h]

theorem all_done {ops : Array Oper} {listed : Array Bool} (hs : listed.size = ops.size) (hb : backs ops = true) (hr : Region.ready .any ops listed = []) : ∀ i, i < ops.size → listed.getD i false = true := by
  intro i
  induction i using Nat.strongRecOn with
  | ind i ih =>
    intro hi
    cases hd : listed.getD i false with
    | true => rfl
    | false =>
      exfalso
      have hmem : i ∈ Region.ready .any ops listed := mem_ready.2 ⟨by rw [getD_in (by omega)]; exact hd, _, Array.getElem?_eq_getElem hi, fun e he hbi => by
        have hj : e.on ∈ ahead ops i := (mem_ahead (Array.getElem?_eq_getElem hi)).2 ⟨e, he, hbi, rfl⟩
        have := List.all_eq_true.1 (List.all_eq_true.1 hb i (List.mem_range.2 hi)) _ hj
        have hlt : e.on < i := by simpa using this
        exact ih _ hlt (by omega)⟩
      rw [hr] at hmem
      simp at hmem

def undone (n : Nat) (listed : Array Bool) : Nat := ((List.range n).filter fun i => !listed.getD i false).length

theorem filter_lt {l : List Nat} {p q : Nat → Bool} (h : ∀ x, q x = true → p x = true) {i : Nat} (hi : i ∈ l) (hp : p i = true) (hq : q i = false) : (l.filter q).length < (l.filter p).length := by
  induction l with
  | nil => simp at hi
  | cons y l ih =>
    have hle : ∀ l : List Nat, (l.filter q).length ≤ (l.filter p).length := fun l => by
      induction l with
      | nil => simp
      | cons z l ih =>
        simp only [List.filter_cons]
        cases hq' : q z with
        | true => simp [h z hq']; exact ih
        | false => cases p z <;> simp <;> omega
    simp only [List.filter_cons]
    rcases List.mem_cons.1 hi with rfl | hi
    · simp only [hp, hq, if_true, Bool.false_eq_true, if_false, List.length_cons]
      have := hle l; omega
    · have := ih hi
      cases hq' : q y with
      | true => simp [h y hq']; omega
      | false => cases p y <;> simp <;> omega

theorem undone_lt {n i : Nat} {listed : Array Bool} (hi : i < n) (hs : listed.size = n) (h : listed.getD i false = false) : undone n (listed.setIfInBounds i true) < undone n listed := by
  refine filter_lt (fun x hx => ?_) (List.mem_range.2 hi) (by simpa using h) ?_
  · by_cases hxi : i = x
    · subst hxi; simpa using h
    · rw [getD_set_ne false hxi] at hx; exact hx
  · have : i < listed.size := by omega
    simp [this]

theorem xdraw_sound {P : Program} {co : Co} (hco : CoOk P co) (hmo : P.follows .mixedOrders = true) : XdOk P (xdraw P co) := by
  intro ops st st' h E a w n rnd id hA
  unfold xdraw at h
  split at h
  · rename_i rcs hx
    split at h
    · rename_i hc
      injection h with h; subst h
      simp only [Bool.and_eq_true] at hc
      obtain ⟨hok, hbk⟩ := hc
      obtain ⟨x1, x2, x3, x4⟩ := xds_inv (List.range ops.size) st.t st.M rcs (fun i hi => List.mem_range.1 hi) hx
      rw [List.length_range] at x1
      generalize hN : (rcs.foldl (fun M rc => rc.M M) st.M).length = N at x2 x3
      obtain ⟨P0, hP0⟩ : ∃ P0, P0 = st.M ++ List.replicate (N - st.M.length) DE.free := ⟨_, rfl⟩
      have hPlen : P0.length = N := by rw [hP0]; simp; omega
      have hE0 : Ext st.M P0 := ⟨by omega, fun s hs => by rw [hP0, List.getElem?_append_left hs]⟩
      have hmP : ∀ rc ∈ rcs, rc.m.length ≤ P0.length := fun rc hr => by rw [hPlen]; exact x2 rc hr
      have hPf : ∀ (s : Nat) (x : DE), st.M.length ≤ s → P0[s]? = some x → x = .free := fun s x hs hx => by
        rw [hP0, List.getElem?_append_right hs, List.getElem?_replicate] at hx
        split at hx
        · injection hx with hx; exact hx.symm
        · cases hx
      obtain ⟨⟨y1, y2⟩, y3⟩ := x4 P0 0 hE0 hmP
      have hyM := y1.eq (by rw [fM_length rcs 0 _ P0 hmP, hPlen, hN])
      have hpad := pad_rel (N - st.M.length) hA.H
      rw [← hP0] at hpad
      obtain ⟨asz, _, asp⟩ := ancs_spec ops ops.size []
      simp only [List.length_nil, Nat.zero_add] at asz asp
      let stL : (Nat → Bool) → XS := fun L => ⟨fT rcs 0 L st.t, fM rcs 0 L P0, st.d⟩
      have hrec : ∀ (k : Nat) (r : RC), rcs[k]? = some r → ∃ o M', ops[k]? = some o ∧ xd1 P co ops k (fT rcs 0 (fun j => decide (j < 0 + k)) st.t) M' = some r ∧ Ext M' (fM rcs 0 (fun j => decide (j < 0 + k)) P0) ∧ st.M.length ≤ M'.length ∧
          (∀ (j : Nat) (q : RC), j < k → rcs[j]? = some q → q.n ≤ M'.length ∧ q.m.length ≤ M'.length) := fun k r hr => by
        have hk : k < ops.size := by rw [← x1]; exact (List.getElem?_eq_some_iff.1 hr).1
        obtain ⟨M', z1, z2, z3, z4⟩ := y3 k k r hr (by rw [List.getElem?_range hk])
        exact ⟨_, M', Array.getElem?_eq_getElem hk, z1, z2, z3, z4⟩
      have main : ∀ (fuel : Nat) (listed : Array Bool) (E1 : EV) (a1 : Act) (w1 : World), listed.size = ops.size → undone ops.size listed ≤ fuel →
          (∀ j, listed.getD j false = true → ∀ k ∈ (ancs ops ops.size []).getD j [], listed.getD k false = true) →
          AR E1 (stL fun k => listed.getD k false) a1 w1 → XT ⟨w, E, st.M, []⟩ E1 (stL fun k => listed.getD k false).M w1 →
          wpAnyIn (WF rnd) n P .any ops (fun e a' w' => TR E st.M w .normal ⟨rcs.foldl (fun t rc => rc.t t) st.t, rcs.foldl (fun M rc => rc.M M) st.M, st.d⟩ e a' w') fuel listed a1 w1 := by
        have fin : ∀ (listed : Array Bool) (E1 : EV) (a1 : Act) (w1 : World), listed.size = ops.size → (∀ i, i < ops.size → listed.getD i false = true) →
            AR E1 (stL fun k => listed.getD k false) a1 w1 → XT ⟨w, E, st.M, []⟩ E1 (stL fun k => listed.getD k false).M w1 →
            TR E st.M w .normal ⟨rcs.foldl (fun t rc => rc.t t) st.t, rcs.foldl (fun M rc => rc.M M) st.M, st.d⟩ .normal a1 w1 := fun listed E1 a1 w1 hs hall hA1 hX1 => by
          have e1 : fT rcs 0 (fun k => listed.getD k false) st.t = rcs.foldl (fun t rc => rc.t t) st.t := by
            rw [y2]; exact fT_agree _ _ _ _ _ fun j hj => by simp only [Nat.zero_add]; exact hall j (by omega)
          have e2 : fM rcs 0 (fun k => listed.getD k false) P0 = rcs.foldl (fun M rc => rc.M M) st.M := by
            rw [← hyM]; exact fM_agree _ _ _ _ _ fun j hj => by simp only [Nat.zero_add]; exact hall j (by omega)
          simp only [stL, e1, e2] at hA1 hX1
          exact ⟨E1, hA1, hX1, rfl⟩
        intro fuel
        induction fuel with
        | zero =>
          intro listed E1 a1 w1 hs hu hcl hA1 hX1
          have hall : ∀ i, i < ops.size → listed.getD i false = true := fun i hi => by
            cases hd : listed.getD i false with
            | true => rfl
            | false => have := undone_lt hi hs hd; omega
          refine ⟨?_, fin listed E1 a1 w1 hs hall hA1 hX1⟩
          apply List.eq_nil_iff_forall_not_mem.2
          intro i hi
          obtain ⟨h0, o, ho, _⟩ := mem_ready.1 hi
          have hlt := (Array.getElem?_eq_some_iff.1 ho).1
          rw [getD_in (by omega), hall i hlt] at h0
          cases h0
        | succ fuel ih =>
          intro listed E1 a1 w1 hs hu hcl hA1 hX1
          refine ⟨fun hr => fin listed E1 a1 w1 hs (all_done hs hbk hr) hA1 hX1, fun i hi => ?_⟩
          obtain ⟨h0, o, ho, haf⟩ := mem_ready.1 hi
          have hlt : i < ops.size := (Array.getElem?_eq_some_iff.1 ho).1
          rw [getD_in (by omega)] at h0
          have hri : rcs[i]? = some (rcs[i]'(by omega)) := List.getElem?_eq_getElem _
          generalize rcs[i]'(by omega) = rc at hri
          obtain ⟨o', M', z0, z1, z2, z3, z4⟩ := hrec i rc hri
          rw [ho] at z0; injection z0 with z0; subst z0
          simp only [Nat.zero_add] at z1 z2
          obtain ⟨r1, r2, r3, r4, r5, r6, r7⟩ := xd1_rec ho z1
          have hah : ∀ j ∈ ahead ops i, listed.getD j false = true := fun j hj => by
            obtain ⟨e, he, hb, rfl⟩ := (mem_ahead ho).1 hj
            exact haf e he hb
          have hanc : ∀ j ∈ (ancs ops ops.size []).getD i [], listed.getD j false = true := fun j hj => by
            rcases asp i (Nat.zero_le _) hlt j hj with h1 | ⟨k, h1, h2⟩
            · exact hah j h1
            · exact hcl k (hah k h1) j h2
          obtain ⟨g1, g2, g3, g4, g5⟩ := one_more (L := fun k => listed.getD k false) (L' := fun k => (listed.setIfInBounds i true).getD k false) (t0 := st.t) hok hri h0 hanc
            (fun j hj hij => by have := hcl j hj i hij; rw [h0] at this; cases this) hmP (fun r hr => by
              obtain ⟨k, hk⟩ := List.mem_iff_getElem?.1 hr
              obtain ⟨o2, M2, q0, q1, _⟩ := hrec k r hk
              exact (xd1_rec q0 q1).2.2.2.2.2.1) r7 z2 r2 z4
            (fun k r hk hr => by
              obtain ⟨o2, M2, q0, q1, q2, q3, q4⟩ := hrec k r hr
              have := xd1_rec q0 q1
              have h5 := (q4 i rc hk hri).2
              omega) r4 hPf z3 (fun k hk => getD_set_ne false (Ne.symm hk)) (by simp [show i < listed.size by omega])
          rw [r3] at g1
          refine xd1_step hco ho z1 g1 g2 g3 hA1 fun E2 a2 w2 hA2 hX2 => ?_
          rw [g4, g5] at hA2
          rw [g5] at hX2
          refine ih (listed.setIfInBounds i true) E2 a2 w2 (by simpa using hs) (by have := undone_lt hlt hs h0; omega) (fun j hj k hk => ?_) hA2 (hX1.trans hX2)
          by_cases hji : j = i
          · subst hji; exact getD_set_true (hanc k hk)
          · rw [getD_set_ne false (Ne.symm hji)] at hj; exact getD_set_true (hcl j hj k hk)
      refine wpIn_region_any hmo ?_
      have hA' : AR E st a { w with drawn := w.drawn + 1 } ∧ XT ⟨w, E, st.M, []⟩ E st.M { w with drawn := w.drawn + 1 } := hA.drew
      have hpad' := pad_rel (N - st.M.length) hA'.1.H
      rw [← hP0] at hpad'
      have hno : ∀ k, (Array.replicate ops.size false).getD k false = false := fun k => by
        rw [Array.getD_eq_getD_getElem?, Array.getElem?_replicate]; split <;> rfl
      have e1 : (stL fun k => (Array.replicate ops.size false).getD k false) = ⟨st.t, P0, st.d⟩ := by
        simp only [stL, fT_id rcs 0 _ st.t (fun j _ => hno j), fM_id rcs 0 _ P0 (fun j _ => hno j)]
      refine main ops.size (Array.replicate ops.size false) E a _ (by simp) ?_ (fun j hj => by rw [hno] at hj; cases hj) ?_ ?_
      · unfold undone
        exact Nat.le_trans (List.length_filter_le _ _) (by simp)
      · rw [e1]; exact ⟨hpad'.1, hA'.1.t, hA'.1.d⟩
      · rw [e1]; exact hA'.2.trans hpad'.2
    · cases h
  · cases h

end Go.Proofs.YtkcelehlilppcaaGreat
