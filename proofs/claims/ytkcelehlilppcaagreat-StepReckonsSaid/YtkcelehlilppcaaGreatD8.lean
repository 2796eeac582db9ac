/- Steps that lay or turn memory: a new object; an object turned in place; an append. No condition. -/
import Derived.Test.YtkcelehlilppcaaGreatD7
set_option linter.unusedVariables false
set_option linter.unusedSimpArgs false
namespace Go.Proofs.YtkcelehlilppcaaGreat
open Go.RowKit

theorem getElem?_set' {M : List DE} {id i : Nat} {o o' : DE} (h : (M.set id o)[i]? = some o') : (i = id ∧ o' = o ∧ id < M.length) ∨ (i ≠ id ∧ M[i]? = some o') := by
  rw [List.getElem?_set] at h
  split at h
  · rename_i he
    split at h
    · rename_i hl
      exact .inl ⟨he.symm, by injection h with h; exact h.symm, hl⟩
    · cases h
  · rename_i he; exact .inr ⟨fun e => he e.symm, h⟩

theorem lt_of_getElem? {M : List DE} {i : Nat} {o : DE} (h : M[i]? = some o) : i < M.length := (List.getElem?_eq_some_iff.1 h).1

theorem not_al {E : EV} {M : List DE} {w : World} (hH : HR E M w) {id : Nat} (h : M[id]? = some .free) : ¬ E.al id := fun ha => by
  obtain ⟨o, hM, hne⟩ := hH.al id ha
  rw [h] at hM
  injection hM with hM
  exact hne hM.symm

/-- The ghosts with one number more. -/
def EV.add (E : EV) (id b n cap : Nat) : EV where
  S := E.S
  al := fun i => E.al i ∨ i = id
  b := fun i => if i = id then b else E.b i
  n := fun i => if i = id then n else E.n i
  cap := fun i => if i = id then cap else E.cap i

theorem EE.add {E : EV} {w w' : World} {id b n cap : Nat} (hna : ¬ E.al id) (hw : ∀ b, E.S b → w'.heap[b]? = w.heap[b]?) : EE E (E.add id b n cap) w w' := by
  have hne : ∀ i, E.al i → i ≠ id := fun i hi e => hna (e ▸ hi)
  exact ⟨fun _ h => h, fun _ h => .inl h, fun i hi => by simp [EV.add, hne i hi], fun i hi => by simp [EV.add, hne i hi], fun i hi => by simp [EV.add, hne i hi], hw⟩

/-- A new object at a number, some others gone; blocks that no live number has stand. -/
theorem new_step {E : EV} {M : List DE} {w w' : World} (hH : HR E M w) {id b n cap : Nat} {o : DE} (df : List Deferred) (hf : M[id]? = some .free) (hl : o.live)
    (M1 : List DE) (hM1 : ∀ (i : Nat) (x : DE), M1[i]? = some x → M[i]? = some x ∨ (x = .dead ∧ ∃ y, M[i]? = some y ∧ y.live)) (hlen : M1.length = M.length)
    (os : w'.os = w.os) (tape : w'.tape = w.tape) (output : w'.output = w.output) (size : w.heap.size ≤ w'.heap.size) (hb : b < w'.heap.size)
    (hbn : w.heap.size ≤ b ∨ ∃ j y, M[j]? = some y ∧ y.live ∧ E.b j = b ∧ M1[j]? = some .dead)
    (hw : ∀ q, q < w.heap.size → q ≠ b → w'.heap[q]? = w.heap[q]?)
    (ho : EE E (E.add id b n cap) w w' → OR (E.add id b n cap) w' id o) :
    HR (E.add id b n cap) (M1.set id o) w' ∧ XT ⟨w, E, M, df⟩ (E.add id b n cap) (M1.set id o) w' ∧ EE E (E.add id b n cap) w w' := by
  have hna := not_al hH hf
  have hne : ∀ i, E.al i → i ≠ id := fun i hi e => hna (e ▸ hi)
  have hSb : ∀ q, E.S q → q ≠ b := fun q hq e => by
    subst e
    rcases hbn with h1 | ⟨j, y, h1, h2, h3, _⟩
    · exact absurd (hH.slt _ hq) (Nat.not_lt.2 h1)
    · exact (hH.lt j y h1 h2).2 (h3 ▸ hq)
  have hEE : EE E (E.add id b n cap) w w' := .add hna fun q hq => hw q (hH.slt q hq) (hSb q hq)
  have hid : id < M1.length := by rw [hlen]; exact lt_of_getElem? hf
  -- what lives in M1 lives in M, and its block is another one
  have hold : ∀ (i : Nat) (x : DE), M1[i]? = some x → x.live → M[i]? = some x ∧ E.b i ≠ b := fun i x hx hxl => by
    rcases hM1 i x hx with h1 | ⟨h1, _⟩
    · refine ⟨h1, fun e => ?_⟩
      rcases hbn with h2 | ⟨j, y, h2, h3, h4, h5⟩
      · exact absurd (hH.lt i x h1 hxl).1 (Nat.not_lt.2 (e ▸ h2))
      · have := hH.inj i j x y h1 h2 hxl h3 (e.trans h4.symm)
        subst this
        rw [h5] at hx
        injection hx with hx
        subst hx
        exact hxl
    · subst h1; exact hxl.elim
  refine ⟨⟨fun i x hx => ?_, fun i x hx hxl => ?_, fun i j x y hx hy hxl hyl he => ?_, fun i hi => ?_, fun i x hx hxl => ?_, fun q hq => Nat.lt_of_lt_of_le (hH.slt q hq) size⟩, ?_, hEE⟩
  · rcases getElem?_set' hx with ⟨rfl, rfl, _⟩ | ⟨h1, h2⟩
    · exact ho hEE
    · by_cases hxl : x.live
      · obtain ⟨h3, h4⟩ := hold i x h2 hxl
        exact (hH.objs i x h3).keep hEE (hH.la i x h3 hxl) (hw _ (hH.lt i x h3 hxl).1 h4)
      · cases x <;> first | trivial | exact absurd trivial hxl
  · rcases getElem?_set' hx with ⟨rfl, rfl, _⟩ | ⟨h1, h2⟩
    · simp only [EV.add, if_true]
      exact ⟨hb, fun hs => hSb _ hs rfl⟩
    · obtain ⟨h3, h4⟩ := hold i x h2 hxl
      simp only [EV.add, h1, if_false]
      exact ⟨Nat.lt_of_lt_of_le (hH.lt i x h3 hxl).1 size, (hH.lt i x h3 hxl).2⟩
  · rcases getElem?_set' hx with ⟨rfl, rfl, _⟩ | ⟨h1, h2⟩ <;> rcases getElem?_set' hy with ⟨rfl, rfl, _⟩ | ⟨h3, h4⟩
    · rfl
    · obtain ⟨h5, h6⟩ := hold j y h4 hyl
      simp only [EV.add, if_true, h3, if_false] at he
      exact absurd he.symm h6
    · obtain ⟨h5, h6⟩ := hold i x h2 hxl
      simp only [EV.add, if_true, h1, if_false] at he
      exact absurd he h6
    · obtain ⟨h5, _⟩ := hold i x h2 hxl
      obtain ⟨h6, _⟩ := hold j y h4 hyl
      simp only [EV.add, h1, h3, if_false] at he
      exact hH.inj i j x y h5 h6 hxl hyl he
  · by_cases he : i = id
    · subst he
      exact ⟨o, by rw [List.getElem?_set, if_pos rfl, if_pos hid], live_ne_free hl⟩
    · rcases hi with hi | hi
      · obtain ⟨x, hM, hxf⟩ := hH.al i hi
        have hil : i < M1.length := by rw [hlen]; exact lt_of_getElem? hM
        refine ⟨M1[i], by rw [List.getElem?_set, if_neg (fun e => he e.symm)]; exact List.getElem?_eq_getElem hil, fun hfr => ?_⟩
        rcases hM1 i M1[i] (List.getElem?_eq_getElem hil) with h1 | ⟨h1, _⟩
        · rw [h1] at hM; injection hM with hM; exact hxf (hM ▸ hfr)
        · rw [hfr] at h1; cases h1
      · exact absurd hi he
  · rcases getElem?_set' hx with ⟨rfl, rfl, _⟩ | ⟨h1, h2⟩
    · exact .inr rfl
    · exact .inl (hH.la i x (hold i x h2 hxl).1 hxl)
  · refine ⟨os, tape, output, size, fun q hq hno => hw q hq fun e => ?_, fun _ h => h, fun _ h => .inl h, fun i hi => by simp [EV.add, hne i hi], fun _ h => .inl h, fun i x hx hxl => ?_,
      fun i hi => hi.imp (fun h => h) fun e x hx => by subst e; rw [hf] at hx; injection hx with hx; exact hx.symm, fun i x hx hxf => ?_⟩
    · rcases hbn with h1 | ⟨j, y, h1, h2, h3, _⟩
      · exact absurd hq (Nat.not_lt.2 (e ▸ h1))
      · exact hno ⟨j, y, h1, h2, h3.trans e.symm⟩
    · rcases getElem?_set' hx with ⟨rfl, rfl, _⟩ | ⟨h1, h2⟩
      · simp only [EV.add, if_true]
        rcases hbn with h1 | ⟨j, y, h1, h2, h3, _⟩
        · exact .inl h1
        · exact .inr ⟨j, y, h1, h2, h3⟩
      · simp only [EV.add, h1, if_false]
        exact .inr (.of (hold i x h2 hxl).1 hxl)
    · have hi : i ≠ id := fun e => by subst e; rw [hf] at hx; injection hx with hx; exact hxf hx.symm
      have hil : i < M1.length := by rw [hlen]; exact lt_of_getElem? hx
      refine ⟨M1[i], by rw [List.getElem?_set, if_neg (fun e => hi e.symm)]; exact List.getElem?_eq_getElem hil, fun hfr => ?_⟩
      rcases hM1 i M1[i] (List.getElem?_eq_getElem hil) with h1 | ⟨h1, _⟩
      · rw [h1] at hx; injection hx with hx; exact hxf (hx ▸ hfr)
      · rw [hfr] at h1; cases h1

/-- A block that is laid. -/
theorem alloc_step {E : EV} {M : List DE} {w : World} (hH : HR E M w) {id : Nat} (n cap : Nat) {o : DE} (ob : Obj) (df : List Deferred) (hf : M[id]? = some .free) (hl : o.live)
    (ho : EE E (E.add id w.heap.size n cap) w (w.alloc ob) → OR (E.add id w.heap.size n cap) (w.alloc ob) id o) :
    HR (E.add id w.heap.size n cap) (M.set id o) (w.alloc ob) ∧ XT ⟨w, E, M, df⟩ (E.add id w.heap.size n cap) (M.set id o) (w.alloc ob) ∧ EE E (E.add id w.heap.size n cap) w (w.alloc ob) :=
  new_step hH df hf hl M (fun i x hx => .inl hx) rfl rfl rfl rfl (by simp) (by simp) (.inl (Nat.le_refl _)) (fun q hq _ => Below.heap_alloc w ob q hq) ho

theorem set_self {M : List DE} {id : Nat} {o : DE} (h : id < M.length) : (M.set id o)[id]? = some o := by rw [List.getElem?_set, if_pos rfl, if_pos h]

/-- An object that is turned in its block. -/
theorem upd_step {E : EV} {M : List DE} {w w' : World} (hH : HR E M w) {id : Nat} {o o' : DE} (df : List Deferred) (hM : M[id]? = some o) (hl : o.live) (hl' : o'.live)
    (os : w'.os = w.os) (tape : w'.tape = w.tape) (output : w'.output = w.output) (size : w'.heap.size = w.heap.size) (hw : ∀ q, q ≠ E.b id → w'.heap[q]? = w.heap[q]?)
    (ho : EE E E w w' → OR E w' id o') : HR E (M.set id o') w' ∧ XT ⟨w, E, M, df⟩ E (M.set id o') w' ∧ EE E E w w' := by
  have hEE : EE E E w w' := ⟨fun _ h => h, fun _ h => h, fun _ _ => rfl, fun _ _ => rfl, fun _ _ => rfl, fun b hb => hw b fun e => (hH.lt id o hM hl).2 (e ▸ hb)⟩
  have hold : ∀ (i : Nat) (x : DE), i ≠ id → M[i]? = some x → x.live → E.b i ≠ E.b id := fun i x hi hx hxl e => hi (hH.inj i id x o hx hM hxl hl e)
  refine ⟨⟨fun i x hx => ?_, fun i x hx hxl => ?_, fun i j x y hx hy hxl hyl he => ?_, fun i hi => ?_, fun i x hx hxl => ?_, fun q hq => by rw [size]; exact hH.slt q hq⟩, ?_, hEE⟩
  · rcases getElem?_set' hx with ⟨rfl, rfl, _⟩ | ⟨h1, h2⟩
    · exact ho hEE
    · by_cases hxl : x.live
      · exact (hH.objs i x h2).keep hEE (hH.la i x h2 hxl) (hw _ (hold i x h1 h2 hxl))
      · cases x <;> first | trivial | exact absurd trivial hxl
  · rw [size]
    rcases getElem?_set' hx with ⟨rfl, rfl, _⟩ | ⟨h1, h2⟩
    · exact hH.lt _ o hM hl
    · exact hH.lt i x h2 hxl
  · rcases getElem?_set' hx with ⟨rfl, rfl, _⟩ | ⟨h1, h2⟩ <;> rcases getElem?_set' hy with ⟨rfl, rfl, _⟩ | ⟨h3, h4⟩
    · rfl
    · exact absurd he.symm (hold j y h3 h4 hyl)
    · exact absurd he (hold i x h1 h2 hxl)
    · exact hH.inj i j x y h2 h4 hxl hyl he
  · obtain ⟨x, hx, hxf⟩ := hH.al i hi
    by_cases he : i = id
    · subst he; exact ⟨o', set_self (lt_of_getElem? hM), live_ne_free hl'⟩
    · exact ⟨x, by rw [List.getElem?_set, if_neg (fun e => he e.symm)]; exact hx, hxf⟩
  · rcases getElem?_set' hx with ⟨rfl, rfl, _⟩ | ⟨h1, h2⟩
    · exact hH.la _ o hM hl
    · exact hH.la i x h2 hxl
  · refine ⟨os, tape, output, by rw [size]; exact Nat.le_refl _, fun q hq hno => hw q fun e => hno ⟨id, o, hM, hl, e.symm⟩, fun _ h => h, fun _ h => .inl h, fun _ _ => ⟨rfl, rfl, rfl⟩, fun _ h => h, fun i x hx hxl => ?_, fun _ h => .inl h, fun i x hx hxf => ?_⟩
    rcases getElem?_set' hx with ⟨rfl, rfl, _⟩ | ⟨h1, h2⟩
    · exact .inr (.of hM hl)
    · exact .inr (.of h2 hxl)
    · by_cases he : i = id
      · subst he; exact ⟨o', set_self (lt_of_getElem? hM), live_ne_free hl'⟩
      · exact ⟨x, by rw [List.getElem?_set, if_neg (fun e => he e.symm)]; exact hx, hxf⟩

/-! ### Values of one cell -/
def scal : DV → Bool
  | .any | .un | .agg _ | .tup _ => false
  | _ => true

theorem scal_one {E : EV} {w : World} {x : DV} {v : Value} (hs : scal x = true) (h : VR E w x v) : v.oneCell' = true := by
  cases h with
  | pd hp => cases hp <;> rfl
  | any => cases hs
  | un => cases hs
  | agg => cases hs
  | tup => cases hs
  | _ => rfl

theorem PR.one {S : Nat → Prop} {w : World} {p : PD} {v : Value} (h : PR S w p v) : v.oneCell' = true := by cases h <;> rfl

theorem LR.one {E : EV} {w : World} {cs : List DV} {vs : Array Value} (h : LR E w cs vs) (hs : cs.all scal = true) : ∀ v ∈ vs.toList, v.oneCell' = true := fun v hv => by
  obtain ⟨i, hi, he⟩ := List.getElem_of_mem hv
  have hi' : i < cs.length := by rw [← h.1]; simpa using hi
  refine scal_one (List.all_eq_true.1 hs cs[i] (List.getElem_mem hi')) (h.2 i cs[i] v (List.getElem?_eq_getElem hi') ?_)
  rw [← he]; simp

end Go.Proofs.YtkcelehlilppcaaGreat
