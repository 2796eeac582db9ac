/- A step that sees a part of memory, in the whole. No condition. -/
import Derived.Test.YtkcelehlilppcaaGreatD9
set_option linter.unusedVariables false
set_option linter.unusedSimpArgs false
namespace Go.Proofs.YtkcelehlilppcaaGreat
open Go.RowKit

mutual
/-- Are all numbers that a value names below a bound? -/
def bdV (n : Nat) : DV → Bool
  | .any | .un | .pd _ | .sa _ | .np | .nm | .nf | .ni | .em => true
  | .ptr i _ | .ra i _ _ _ | .own i | .mp i | .yld i => decide (i < n)
  | .fn _ a b => bdVs n a && bdVs n b
  | .ifc _ x => bdV n x
  | .agg cs | .tup cs => bdVs n cs
def bdVs (n : Nat) : List DV → Bool
  | [] => true
  | x :: l => bdV n x && bdVs n l
end

theorem bdVs_get {n : Nat} : ∀ {l : List DV} {i : Nat} {x : DV}, bdVs n l = true → l[i]? = some x → bdV n x = true
  | [], i, x, _, h => by simp at h
  | y :: l, 0, x, hn, h => by simp [bdVs] at hn h; rw [← h]; exact hn.1
  | y :: l, i + 1, x, hn, h => by simp [bdVs] at hn h; exact bdVs_get hn.2 h

theorem bdVs_getD {n : Nat} {l : List DV} (h : bdVs n l = true) (i : Nat) : bdV n (l.getD i .any) = true := by
  rw [List.getD_eq_getElem?_getD]
  cases hi : l[i]? with
  | none => rfl
  | some x => exact bdVs_get h hi

def bdO (n : Nat) : DE → Bool
  | .free | .dead | .dfr _ => true
  | .obj cs => bdVs n cs
  | .row _ _ rs => rs.all (bdVs n)
  | .map es _ => es.all fun x => bdV n x.1 && bdV n x.2.1
  | .it m _ _ _ => match m with | some j => decide (j < n) | none => true
  | .loop ts _ _ _ d _ _ => bdVs n ts && decide (d < n)

theorem VR.bel {E : EV} {w : World} {n : Nat} {x : DV} {v : Value} (h : VR E w x v) : bdV n x = true → VR (E.below n) w x v := by
  induction h with
  | any v => intro _; exact .any v
  | un => intro _; exact .un
  | pd hp => intro _; exact .pd hp
  | sa u hu => intro _; exact .sa u hu
  | np => intro _; exact .np
  | ptr ha => intro h; exact .ptr (E := E.below n) ⟨ha, of_decide_eq_true h⟩
  | ra ha => intro h; exact .ra (E := E.below n) ⟨ha, of_decide_eq_true h⟩
  | own ha => intro h; exact .own (E := E.below n) ⟨ha, of_decide_eq_true h⟩
  | yld ha => intro h; exact .yld (E := E.below n) ⟨ha, of_decide_eq_true h⟩
  | em => intro _; exact .em
  | mp ha => intro h; exact .mp (E := E.below n) ⟨ha, of_decide_eq_true h⟩
  | nm => intro _; exact .nm
  | fn h1 h2 _ _ h3 h4 =>
    intro h
    simp only [bdV, Bool.and_eq_true] at h
    exact .fn h1 h2 (fun i x v hx hv => h3 i x v hx hv (bdVs_get h.1 hx)) (fun i x v hx hv => h4 i x v hx hv (bdVs_get h.2 hx))
  | nf => intro _; exact .nf
  | ifc _ ih => intro h; exact .ifc (ih h)
  | ni => intro _; exact .ni
  | agg h1 _ h2 => intro h; exact .agg h1 fun i x v hx hv => h2 i x v hx hv (bdVs_get h hx)
  | tup h1 _ h2 => intro h; exact .tup h1 fun i x v hx hv => h2 i x v hx hv (bdVs_get h hx)

theorem OR.bel {E : EV} {w : World} {id n : Nat} {o : DE} (h : OR E w id o) (hb : bdO n o = true) : OR (E.below n) w id o := by
  cases o with
  | free => trivial
  | dead => trivial
  | obj cs =>
    obtain ⟨vs, e, h1, h2, h3⟩ := h
    exact ⟨vs, e, h1, h2, fun i x v hx hv => (h3 i x v hx hv).bel (bdVs_get hb hx)⟩
  | row e k rs =>
    obtain ⟨h1, h2, h3, cur, h4, h5, h6⟩ := h
    refine ⟨h1, h2, h3, cur, h4, h5, fun j i hj hi => ?_⟩
    obtain ⟨v, h7, h8⟩ := h6 j i hj hi
    refine ⟨v, h7, h8.bel (bdVs_getD ?_ i)⟩
    rw [List.getD_eq_getElem?_getD, List.getElem?_eq_getElem hj]
    exact List.all_eq_true.1 hb _ (List.getElem_mem hj)
  | map es cl =>
    obtain ⟨en, h1, h2, h3⟩ := h
    refine ⟨en, h1, h2, fun i x m hx hm => ?_⟩
    have hh := List.all_eq_true.1 hb x (List.mem_of_getElem? hx)
    simp only [Bool.and_eq_true] at hh
    exact ⟨(h3 i x m hx hm).1.bel hh.1, (h3 i x m hx hm).2.1.bel hh.2, (h3 i x m hx hm).2.2⟩
  | it m since seen last =>
    obtain ⟨h1, h2⟩ := h
    refine ⟨h1, fun j hj => ⟨h2 j hj, ?_⟩⟩
    subst hj
    exact of_decide_eq_true hb
  | loop ts ps as body d st pend =>
    obtain ⟨fn, tmps, h1, h2, h3⟩ := h
    simp only [bdO, Bool.and_eq_true] at hb
    exact ⟨fn, tmps, h1, ⟨h2.1, fun i x v hx hv => (h2.2 i x v hx hv).bel (bdVs_get hb.1 hx)⟩, h3, of_decide_eq_true hb.2⟩
  | dfr opn => exact h

theorem HR.mask {E : EV} {M : List DE} {w : World} (hH : HR E M w) (fp : List Nat) (n : Nat) (hb : (mask fp n M).all (bdO n) = true) : HR (E.below n) (mask fp n M) w where
  objs := fun id o hM => by
    have hbo := List.all_eq_true.1 hb o (List.mem_of_getElem? hM)
    rcases (mask_get hM).2.2 with rfl | ⟨_, h⟩
    · trivial
    · exact (hH.objs id o h).bel hbo
  lt := fun id o hM hl => by
    rcases (mask_get hM).2.2 with rfl | ⟨_, h⟩
    · exact hl.elim
    · exact hH.lt id o h hl
  inj := fun i j o o' hM hM' hl hl' he => by
    rcases (mask_get hM).2.2 with rfl | ⟨_, h⟩
    · exact hl.elim
    · rcases (mask_get hM').2.2 with rfl | ⟨_, h'⟩
      · exact hl'.elim
      · exact hH.inj i j o o' h h' hl hl' he
  al := fun i hi => by
    obtain ⟨o, ho, hf⟩ := hH.al i hi.1
    exact ⟨(Go.Proofs.YtkcelehlilppcaaGreat.mask fp n M)[i]'(by rw [mask_length]; exact hi.2), List.getElem?_eq_getElem _, (mask_get (List.getElem?_eq_getElem _)).2.1⟩
  la := fun i o hM hl => by
    rcases (mask_get hM).2.2 with rfl | ⟨_, h⟩
    · exact hl.elim
    · exact ⟨hH.la i o h hl, (mask_get hM).1⟩
  slt := hH.slt

theorem unmask_get {fp : List Nat} {n : Nat} {M m : List DE} {i : Nat} {o : DE} (hn : n ≤ m.length) (h : (unmask fp n M m)[i]? = some o) :
    (n ≤ i ∧ i < m.length ∨ fp.contains i = true ∧ i < n) ∧ m[i]? = some o ∨ ¬ (n ≤ i ∧ i < m.length ∨ fp.contains i = true ∧ i < n) ∧ (M[i]? = some o ∨ o = .dead) := by
  simp only [unmask, List.getElem?_map] at h
  by_cases hi : i < max M.length m.length
  · rw [List.getElem?_range hi] at h
    simp only [Option.map_some, Option.some.injEq] at h
    split at h
    · rename_i hc
      have hlt : i < m.length := by rcases hc with h1 | h1 <;> omega
      rw [List.getD_eq_getElem?_getD, List.getElem?_eq_getElem hlt] at h
      refine .inl ⟨hc, ?_⟩
      rw [List.getElem?_eq_getElem hlt]; exact congrArg some h
    · rename_i hc
      rw [List.getD_eq_getElem?_getD] at h
      refine .inr ⟨hc, ?_⟩
      cases hM : M[i]? with
      | none => rw [hM] at h; exact .inr h.symm
      | some x => rw [hM] at h; exact .inl (by simpa using h)
  · rw [List.getElem?_eq_none (by simpa using hi)] at h; cases h

theorem unmask_length (fp : List Nat) (n : Nat) (M m : List DE) : (unmask fp n M m).length = max M.length m.length := by simp [unmask]

theorem frame {E E' : EV} {M m : List DE} {w w' : World} {fp : List Nat} {n : Nat} {df : List Deferred} (hH : HR E M w) (hn : n ≤ m.length)
    (hfr : ∀ (i : Nat) (o : DE), n ≤ i → i < m.length → M[i]? = some o → o = .free) (hH' : HR E' m w') (hX : XT ⟨w, E.below n, mask fp n M, df⟩ E' m w') :
    ∃ E'', HR E'' (unmask fp n M m) w' ∧ XT ⟨w, E, M, df⟩ E'' (unmask fp n M m) w' ∧ EE E' E'' w' w' := by
  classical
  -- numbers of the step's own
  let nw : Nat → Prop := fun i => n ≤ i ∧ i < m.length
  have hnw : ∀ i, nw i → ¬ E.al i := fun i hi ha => by
    obtain ⟨o, ho, hf⟩ := hH.al i ha
    exact hf (hfr i o hi.1 hi.2 ho)
  let E'' : EV := { S := E'.S, al := fun i => E.al i ∨ nw i ∧ E'.al i, b := fun i => if nw i then E'.b i else E.b i, n := fun i => if nw i then E'.n i else E.n i, cap := fun i => if nw i then E'.cap i else E.cap i }
  have hlow : ∀ i, E'.al i → ¬ nw i → E.al i ∧ i < n := fun i hi hni => by
    rcases hX.fre i hi with h1 | h1
    · exact h1
    · obtain ⟨o, ho, _⟩ := hH'.al i hi
      have hlt : i < m.length := lt_of_getElem? ho
      have hin : i < n := by
        rcases Nat.lt_or_ge i n with h | h
        · exact h
        · exact absurd ⟨h, hlt⟩ hni
      have hmk : (mask fp n M)[i]? = some ((mask fp n M)[i]'(by rw [mask_length]; exact hin)) := List.getElem?_eq_getElem _
      exact absurd (h1 _ hmk) (mask_get hmk).2.1
  have hE' : EE E' E'' w' w' := by
    have key : ∀ i, E'.al i → (nw i → True) ∧ (¬ nw i → E'.b i = E.b i ∧ E'.n i = E.n i ∧ E'.cap i = E.cap i) := fun i hi => ⟨fun _ => trivial, fun hni => hX.own i (hlow i hi hni)⟩
    refine ⟨fun _ h => h, fun i hi => ?_, fun i hi => ?_, fun i hi => ?_, fun i hi => ?_, fun _ _ => rfl⟩
    · by_cases h : nw i
      · exact .inr ⟨h, hi⟩
      · exact .inl (hlow i hi h).1
    all_goals
      by_cases h : nw i
      · simp only [E'', h, if_true]
      · simp only [E'', h, if_false]
        first | exact ((key i hi).2 h).1.symm | exact ((key i hi).2 h).2.1.symm | exact ((key i hi).2 h).2.2.symm
  have hmo : ∀ b, ownedB (E.below n) (mask fp n M) b → ∃ i o, M[i]? = some o ∧ o.live ∧ E.b i = b ∧ fp.contains i = true ∧ i < n := fun b ⟨i, o, hM, hl, hb⟩ => by
    obtain ⟨h1, _, rfl | ⟨h2, h3⟩⟩ := mask_get hM
    · exact hl.elim
    · exact ⟨i, o, h3, hl, hb, h2, h1⟩
  have hold : ∀ b, b < w.heap.size → ¬ ownedB (E.below n) (mask fp n M) b → w'.heap[b]? = w.heap[b]? := hX.old
  have hEE : EE E E'' w w' := by
    refine ⟨hX.S, fun _ h => .inl h, fun i hi => ?_, fun i hi => ?_, fun i hi => ?_, fun b hb => hold b (hH.slt b hb) fun ho => ?_⟩
    · have h : ¬ nw i := fun h => hnw i h hi
      simp only [E'', h, if_false]
    · have h : ¬ nw i := fun h => hnw i h hi
      simp only [E'', h, if_false]
    · have h : ¬ nw i := fun h => hnw i h hi
      simp only [E'', h, if_false]
    · obtain ⟨i, o, h1, h2, h3, _⟩ := hmo b ho
      exact (hH.lt i o h1 h2).2 (h3 ▸ hb)
  -- what lives in the whole
  have hget : ∀ (i : Nat) (o : DE), (unmask fp n M m)[i]? = some o → o.live →
      (nw i ∨ fp.contains i = true ∧ i < n) ∧ m[i]? = some o ∧ E'.al i ∧ E''.b i = E'.b i ∨ ¬ (nw i ∨ fp.contains i = true ∧ i < n) ∧ M[i]? = some o ∧ E.al i ∧ E''.b i = E.b i := fun i o h hl => by
    rcases unmask_get hn h with ⟨h1, h2⟩ | ⟨h1, h2 | rfl⟩
    · have ha := hH'.la i o h2 hl
      exact .inl ⟨h1, h2, ha, hE'.b i ha⟩
    · have ha := hH.la i o h2 hl
      exact .inr ⟨h1, h2, ha, hEE.b i ha⟩
    · exact hl.elim
  have hkeep : ∀ (i : Nat) (o : DE), ¬ (nw i ∨ fp.contains i = true ∧ i < n) → M[i]? = some o → o.live → ¬ ownedB (E.below n) (mask fp n M) (E.b i) := fun i o h1 h2 hl ho => by
    obtain ⟨j, o', h3, h4, h5, h6, h7⟩ := hmo _ ho
    have := hH.inj j i o' o h3 h2 h4 hl h5
    subst this
    exact h1 (.inr ⟨h6, h7⟩)
  have hmlive : ∀ (i : Nat) (o : DE), m[i]? = some o → o.live → w.heap.size ≤ E'.b i ∨ ownedB (E.below n) (mask fp n M) (E'.b i) := hX.liv
  have hown2 : ∀ b, ownedB (E.below n) (mask fp n M) b → ownedB E M b := fun b ho => by
    obtain ⟨i, o, h1, h2, h3, _⟩ := hmo b ho
    exact ⟨i, o, h1, h2, h3⟩
  refine ⟨E'', ⟨fun i o h => ?_, fun i o h hl => ?_, fun i j o o' h h' hl hl' he => ?_, fun i hi => ?_, fun i o h hl => ?_, hH'.slt⟩, ?_, hE'⟩
  · by_cases hl : o.live
    · rcases hget i o h hl with ⟨_, h2, ha, _⟩ | ⟨h1, h2, ha, _⟩
      · exact (hH'.objs i o h2).keep hE' ha rfl
      · exact (hH.objs i o h2).keep hEE ha (hold _ (hH.lt i o h2 hl).1 (hkeep i o h1 h2 hl))
    · cases o <;> first | trivial | exact absurd trivial hl
  · rcases hget i o h hl with ⟨_, h2, ha, hb⟩ | ⟨h1, h2, ha, hb⟩
    · rw [hb]; exact hH'.lt i o h2 hl
    · rw [hb]
      refine ⟨Nat.lt_of_lt_of_le (hH.lt i o h2 hl).1 hX.size, fun hs => ?_⟩
      rcases hX.new _ hs with h3 | h3 | h3
      · exact (hH.lt i o h2 hl).2 h3
      · exact absurd (hH.lt i o h2 hl).1 (Nat.not_lt.2 h3)
      · exact hkeep i o h1 h2 hl h3
  · rcases hget i o h hl with ⟨h1, h2, ha, hb⟩ | ⟨h1, h2, ha, hb⟩ <;> rcases hget j o' h' hl' with ⟨g1, g2, ga, gb⟩ | ⟨g1, g2, ga, gb⟩
    · rw [hb, gb] at he; exact hH'.inj i j o o' h2 g2 hl hl' he
    · rw [hb, gb] at he
      rcases hmlive i o h2 hl with h3 | h3
      · exact absurd (hH.lt j o' g2 hl').1 (Nat.not_lt.2 (he ▸ h3))
      · exact absurd (he ▸ h3) (hkeep j o' g1 g2 hl')
    · rw [hb, gb] at he
      rcases hmlive j o' g2 hl' with h3 | h3
      · exact absurd (hH.lt i o h2 hl).1 (Nat.not_lt.2 (he ▸ h3))
      · exact absurd (he ▸ h3) (hkeep i o h1 h2 hl)
    · rw [hb, gb] at he; exact hH.inj i j o o' h2 g2 hl hl' he
  · have hlen : i < (unmask fp n M m).length → ∃ o, (unmask fp n M m)[i]? = some o := fun h => ⟨_, List.getElem?_eq_getElem h⟩
    have hbig : ∃ o, (unmask fp n M m)[i]? = some o := hlen (by
      rw [unmask_length]
      rcases hi with hi | ⟨h1, _⟩
      · obtain ⟨o, ho, _⟩ := hH.al i hi; exact Nat.lt_of_lt_of_le (lt_of_getElem? ho) (Nat.le_max_left _ _)
      · exact Nat.lt_of_lt_of_le h1.2 (Nat.le_max_right _ _))
    obtain ⟨o, ho⟩ := hbig
    refine ⟨o, ho, fun hf => ?_⟩
    subst hf
    rcases unmask_get hn ho with ⟨h1, h2⟩ | ⟨h1, h2 | h2⟩
    · rcases hi with hi | ⟨_, hi⟩
      · rcases h1 with h1 | h1
        · exact hnw i h1 hi
        · obtain ⟨o', h3, h4⟩ := hH'.al i (hX.al i ⟨hi, h1.2⟩)
          rw [h2] at h3; injection h3 with h3; exact h4 h3.symm
      · obtain ⟨o', h3, h4⟩ := hH'.al i hi
        rw [h2] at h3; injection h3 with h3; exact h4 h3.symm
    · rcases hi with hi | ⟨h3, _⟩
      · exact not_al hH h2 hi
      · exact h1 (.inl h3)
    · cases h2
  · rcases hget i o h hl with ⟨_, _, ha, _⟩ | ⟨_, _, ha, _⟩
    · exact hE'.al i ha
    · exact .inl ha
  · refine ⟨hX.os, hX.tape, hX.output, hX.size, fun b hb hno => hold b hb fun ho => hno (hown2 b ho), hX.S, fun b hb => ?_, fun i hi => ?_, fun i hi => .inl hi, fun i o h hl => ?_, fun i hi => ?_, fun i o h hf => ?_⟩
    · rcases hX.new b hb with h1 | h1 | h1
      · exact .inl h1
      · exact .inr (.inl h1)
      · exact .inr (.inr (hown2 b h1))
    · exact ⟨hEE.b i hi, hEE.n i hi, hEE.cap i hi⟩
    · rcases hget i o h hl with ⟨_, h2, _, hb⟩ | ⟨_, h2, _, hb⟩
      · rw [hb]; exact (hmlive i o h2 hl).imp (fun h => h) (hown2 _)
      · rw [hb]; exact .inr ⟨i, o, h2, hl, rfl⟩
    · rcases hi with hi | ⟨h1, _⟩
      · exact .inl hi
      · exact .inr fun o ho => hfr i o h1.1 h1.2 ho
    · have hlt : i < (unmask fp n M m).length := by rw [unmask_length]; exact Nat.lt_of_lt_of_le (lt_of_getElem? h) (Nat.le_max_left _ _)
      refine ⟨_, List.getElem?_eq_getElem hlt, fun hfree => ?_⟩
      have ho : (unmask fp n M m)[i]? = some .free := by rw [← hfree]; exact List.getElem?_eq_getElem hlt
      rcases unmask_get hn ho with ⟨h1, h2⟩ | ⟨h1, h2 | h2⟩
      · rcases h1 with h1 | h1
        · exact hf (hfr i o h1.1 h1.2 h)
        · have hmk : (mask fp n M)[i]? = some ((mask fp n M)[i]'(by rw [mask_length]; exact h1.2)) := List.getElem?_eq_getElem _
          obtain ⟨o', h3, h4⟩ := hX.nof i _ hmk (mask_get hmk).2.1
          rw [h2] at h3; injection h3 with h3; exact h4 h3.symm
      · rw [h] at h2; injection h2 with h2; exact hf h2
      · cases h2

end Go.Proofs.YtkcelehlilppcaaGreat
