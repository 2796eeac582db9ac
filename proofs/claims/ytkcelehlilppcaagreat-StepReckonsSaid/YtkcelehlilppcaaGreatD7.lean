/- Calls, and operations that lay or turn memory. No condition. -/
import Derived.Test.YtkcelehlilppcaaGreatD6
set_option linter.unusedVariables false
set_option linter.unusedSimpArgs false
namespace Go.Proofs.YtkcelehlilppcaaGreat
open Go.RowKit

/-- How a call ends. -/
inductive DZ where
  | ret (v : DV)
  | pan (x : DV)

def ZR (E : EV) (w : World) : DZ → Ending → Prop
  | .ret d, e => ∃ v, e = .returned v ∧ VR E w d v
  | .pan d, e => ∃ v, e = .panicked [{ v, recovered := false }] ∧ VR E w d v

def callOk (P : Program) (f : FuncId) : Bool :=
  match P.funcs[f]? with
  | some fn => !(fn.name == "runtime.NumGoroutine") && fn.body.isSome
  | none => false

/-- A contract: what a call comes to, in whatever memory that stands so. -/
def DCalls (P : Program) (f : FuncId) (args : List DV) (M : List DE) (R : DZ → List DE → Prop) : Prop :=
  callOk P f = true ∧ ∀ (E : EV) (w : World) (vs : Array Value), HR E M w → LR E w args vs →
    Calls P f vs w fun e w' => ∃ E' M' r, R r M' ∧ HR E' M' w' ∧ ZR E' w' r e ∧ XT ⟨w, E, M, []⟩ E' M' w'

/-- A contract of a function that names no memory. -/
def DPure (P : Program) (f : FuncId) (args : List DV) (R : DZ → Prop) : Prop := DCalls P f args [] fun r M' => M' = [] ∧ R r

mutual
/-- Does a value name no numbered memory? -/
def noref : DV → Bool
  | .any | .un | .pd _ | .sa _ | .np | .nm | .nf | .ni | .em => true
  | .ptr .. | .ra .. | .own _ | .mp _ | .yld _ => false
  | .fn _ a b => norefs a && norefs b
  | .ifc _ x => noref x
  | .agg cs | .tup cs => norefs cs
def norefs : List DV → Bool
  | [] => true
  | x :: l => noref x && norefs l
end

theorem norefs_get : ∀ {l : List DV} {i : Nat} {x : DV}, norefs l = true → l[i]? = some x → noref x = true
  | [], i, x, _, h => by simp at h
  | y :: l, 0, x, hn, h => by simp [norefs] at hn h; rw [← h]; exact hn.1
  | y :: l, i + 1, x, hn, h => by simp [norefs] at hn h; exact norefs_get hn.2 h

/-- The ghosts without numbers. -/
def EV.bare (E : EV) : EV := { E with al := fun _ => False }

theorem VR.bare {E : EV} {w : World} {x : DV} {v : Value} (h : VR E w x v) : noref x = true → VR E.bare w x v := by
  induction h with
  | any v => intro _; exact .any v
  | un => intro _; exact .un
  | pd hp => intro _; exact .pd hp
  | sa u hu => intro _; exact .sa u hu
  | np => intro _; exact .np
  | ptr ha => intro h; cases h
  | ra ha => intro h; cases h
  | own ha => intro h; cases h
  | yld ha => intro h; cases h
  | em => intro _; exact .em
  | mp ha => intro h; cases h
  | nm => intro _; exact .nm
  | fn h1 h2 _ _ h3 h4 =>
    intro h
    simp [noref] at h
    exact .fn h1 h2 (fun i x v hx hv => h3 i x v hx hv (norefs_get h.1 hx)) (fun i x v hx hv => h4 i x v hx hv (norefs_get h.2 hx))
  | nf => intro _; exact .nf
  | ifc _ ih => intro h; exact .ifc (ih (by simpa [noref] using h))
  | ni => intro _; exact .ni
  | agg h1 _ h2 => intro h; exact .agg h1 fun i x v hx hv => h2 i x v hx hv (norefs_get (by simpa [noref] using h) hx)
  | tup h1 _ h2 => intro h; exact .tup h1 fun i x v hx hv => h2 i x v hx hv (norefs_get (by simpa [noref] using h) hx)

theorem LR.bare {E : EV} {w : World} {xs : List DV} {vs : Array Value} (h : LR E w xs vs) (hn : norefs xs = true) : LR E.bare w xs vs :=
  ⟨h.1, fun i x v hx hv => (h.2 i x v hx hv).bare (norefs_get hn hx)⟩

theorem HR.bare {E : EV} {M : List DE} {w : World} (h : HR E M w) : HR E.bare [] w where
  objs := fun id o hM => by simp at hM
  lt := fun id o hM => by simp at hM
  inj := fun i j o o' hM => by simp at hM
  al := fun i hi => hi.elim
  la := fun i o hM => by simp at hM
  slt := h.slt

/-- From stable blocks, and the blocks of numbers, that are as they were. -/
theorem EE.of {E E' : EV} {M M' : List DE} {w w' : World} {df : List Deferred} (hH : HR E M w) (hX : XT ⟨w, E, M, df⟩ E' M' w') : EE E E' w w' where
  S := hX.S
  al := hX.al
  b := fun i hi => (hX.own i hi).1
  n := fun i hi => (hX.own i hi).2.1
  cap := fun i hi => (hX.own i hi).2.2
  heap := fun b hb => hX.old b (hH.slt b hb) fun ⟨id, o, hM, hl, he⟩ => (hH.lt id o hM hl).2 (he ▸ hb)

/-- An object whose block is as it was. -/
theorem OR.keep {E E' : EV} {w w' : World} (hE : EE E E' w w') {id : Nat} {o : DE} (h : OR E w id o) (ha : E.al id) (hb : w'.heap[E.b id]? = w.heap[E.b id]?) : OR E' w' id o := by
  cases o with
  | free => trivial
  | dead => trivial
  | obj cs =>
    obtain ⟨vs, e, h1, h2⟩ := h
    exact ⟨vs, e, by rw [hE.b _ ha, hb]; exact h1, h2.mono hE⟩
  | row e k rs =>
    obtain ⟨h1, h2, h3, cur, h4, h5, h6⟩ := h
    rw [← hE.cap _ ha] at h2 h3 h5
    refine ⟨(hE.n _ ha).trans h1, h2, h3, cur, by rw [hE.b _ ha, hb]; exact h4, h5, fun j i hj hi => ?_⟩
    obtain ⟨v, h7, h8⟩ := h6 j i hj hi
    exact ⟨v, h7, h8.mono hE⟩
  | map es cl =>
    obtain ⟨en, h1, h2, h3⟩ := h
    exact ⟨en, by rw [hE.b _ ha, hb]; exact h1, h2, fun i x m hx hm => ⟨(h3 i x m hx hm).1.mono hE, (h3 i x m hx hm).2.1.mono hE, (h3 i x m hx hm).2.2⟩⟩
  | it m since seen last =>
    obtain ⟨h1, h2⟩ := h
    refine ⟨?_, fun j hj => hE.al _ (h2 j hj)⟩
    rw [hE.b _ ha, hb, h1]
    cases m with
    | none => rfl
    | some j => simp only [Option.map_some, hE.b _ (h2 j rfl)]
  | loop ts ps as body d st pend =>
    obtain ⟨fn, tmps, h1, h2, h3⟩ := h
    exact ⟨fn, tmps, by rw [hE.b _ ha, hb, h1, hE.b _ h3], h2.mono hE, hE.al _ h3⟩
  | dfr opn =>
    show w'.heap[E'.b id]? = _
    rw [hE.b _ ha, hb]; exact h

theorem live_ne_free {o : DE} (h : o.live) : o ≠ .free := by rintro rfl; exact h
theorem live_ne_dead {o : DE} (h : o.live) : o ≠ .dead := by rintro rfl; exact h

/-! ### A part of memory -/
/-- What a step sees that looks at some numbers below a bound. -/
def DE.nf : DE → DE | .free => .dead | o => o
def mask (fp : List Nat) (n : Nat) (M : List DE) : List DE := (List.range n).map fun i => if fp.contains i then (M.getD i .dead).nf else .dead

theorem DE.nf_ne (o : DE) : o.nf ≠ .free := by cases o <;> simp [DE.nf]

theorem mask_get {fp : List Nat} {n : Nat} {M : List DE} {i : Nat} {o : DE} (h : (mask fp n M)[i]? = some o) : i < n ∧ o ≠ .free ∧ (o = .dead ∨ fp.contains i = true ∧ M[i]? = some o) := by
  simp only [mask, List.getElem?_map] at h
  by_cases hi : i < n
  · rw [List.getElem?_range hi] at h
    simp only [Option.map_some, Option.some.injEq] at h
    refine ⟨hi, ?_, ?_⟩
    · split at h
      · rw [← h]; exact DE.nf_ne _
      · rw [← h]; exact fun e => by cases e
    · split at h
      · rename_i hc
        rw [List.getD_eq_getElem?_getD] at h
        cases hM : M[i]? with
        | none => rw [hM] at h; exact .inl h.symm
        | some x =>
          rw [hM] at h
          simp only [Option.getD_some] at h
          cases x <;> first | exact .inl h.symm | (simp only [DE.nf] at h; exact .inr ⟨hc, congrArg some h⟩)
      · exact .inl h.symm
  · rw [List.getElem?_eq_none (by simpa using hi)] at h; cases h

theorem mask_length (fp : List Nat) (n : Nat) (M : List DE) : (mask fp n M).length = n := by simp [mask]

/-- The ghosts below a bound. -/
def EV.below (E : EV) (n : Nat) : EV := { E with al := fun i => E.al i ∧ i < n }

theorem EE.below (E : EV) (n : Nat) (w : World) : EE (E.below n) E w w := ⟨fun _ h => h, fun _ h => h.1, fun _ _ => rfl, fun _ _ => rfl, fun _ _ => rfl, fun _ _ => rfl⟩

/-- Memory with what a step has made of the part that it saw. -/
def unmask (fp : List Nat) (n : Nat) (M m : List DE) : List DE :=
  (List.range (max M.length m.length)).map fun i => if n ≤ i ∧ i < m.length ∨ fp.contains i = true ∧ i < n then m.getD i .dead else M.getD i .dead

/-! The same, in one go through the list. -/
def maskL (fp : List Nat) : Nat → List DE → List DE
  | _, [] => []
  | i, o :: M => (if fp.contains i then o.nf else .dead) :: maskL fp (i + 1) M

def unmaskT (ch : List Nat) (n : Nat) : Nat → List DE → List DE
  | _, [] => []
  | i, o :: m => (if n ≤ i ∨ ch.contains i = true then o else .dead) :: unmaskT ch n (i + 1) m

def unmaskL (ch : List Nat) (n : Nat) : Nat → List DE → List DE → List DE
  | i, [], m => unmaskT ch n i m
  | i, x :: M, m => (match m with | [] => if ch.contains i = true ∧ i < n then .dead else x | o :: _ => if n ≤ i ∨ ch.contains i = true then o else x) :: unmaskL ch n (i + 1) M m.tail

theorem maskL_get (fp : List Nat) : ∀ (M : List DE) (i s : Nat), (maskL fp i M)[s]? = if s < M.length then some (if fp.contains (i + s) then (M.getD s .dead).nf else .dead) else none
  | [], i, s => by simp [maskL]
  | o :: M, i, 0 => by simp [maskL]
  | o :: M, i, s + 1 => by
    have := maskL_get fp M (i + 1) s
    rw [show i + 1 + s = i + (s + 1) by omega] at this
    simp only [maskL, List.getElem?_cons_succ, this, List.length_cons, Nat.add_lt_add_iff_right, List.getD_cons_succ]

theorem maskL_eq (fp : List Nat) (M : List DE) : maskL fp 0 M = mask fp M.length M := by
  apply List.ext_getElem?
  intro s
  rw [maskL_get]
  unfold mask
  rw [List.getElem?_map]
  by_cases hs : s < M.length
  · rw [if_pos hs, List.getElem?_range hs, Nat.zero_add]; rfl
  · rw [if_neg hs, List.getElem?_eq_none (by simpa using hs)]; rfl

theorem unmaskT_get (ch : List Nat) (n : Nat) : ∀ (m : List DE) (i s : Nat), (unmaskT ch n i m)[s]? =
    if s < m.length then some (if n ≤ i + s ∧ s < m.length ∨ ch.contains (i + s) = true ∧ i + s < n then m.getD s .dead else .dead) else none
  | [], i, s => by simp [unmaskT]
  | o :: m, i, 0 => by
    simp only [unmaskT, List.getElem?_cons_zero, Nat.add_zero, List.length_cons, List.getD_cons_zero]
    rw [if_pos (show 0 < m.length + 1 by omega)]
    congr 1
    by_cases h' : n ≤ i
    · simp [h']
    · simp [h', Nat.lt_of_not_le h']
  | o :: m, i, s + 1 => by
    have := unmaskT_get ch n m (i + 1) s
    rw [show i + 1 + s = i + (s + 1) by omega] at this
    simp only [unmaskT, List.getElem?_cons_succ, this, List.length_cons, List.getD_cons_succ, Nat.add_lt_add_iff_right]

theorem unmaskL_get (ch : List Nat) (n : Nat) : ∀ (M m : List DE) (i s : Nat), (unmaskL ch n i M m)[s]? =
    if s < max M.length m.length then some (if n ≤ i + s ∧ s < m.length ∨ ch.contains (i + s) = true ∧ i + s < n then m.getD s .dead else M.getD s .dead) else none
  | [], m, i, s => by
    simp only [unmaskL, unmaskT_get, List.length_nil, Nat.zero_max, List.getD_nil]
  | x :: M, [], i, 0 => by simp [unmaskL]
  | x :: M, [], i, s + 1 => by
    have := unmaskL_get ch n M [] (i + 1) s
    rw [show i + 1 + s = i + (s + 1) by omega] at this
    simp only [unmaskL, List.tail_nil, List.getElem?_cons_succ, this, List.length_cons, List.length_nil, List.getD_cons_succ, List.getD_nil, Nat.max_zero, Nat.add_lt_add_iff_right, Nat.not_lt_zero, and_false, false_or]
  | x :: M, o :: m, i, 0 => by
    simp only [unmaskL, List.getElem?_cons_zero, Nat.add_zero, List.length_cons, List.getD_cons_zero]
    rw [if_pos (show 0 < max (M.length + 1) (m.length + 1) by omega)]
    congr 1
    by_cases h' : n ≤ i
    · simp [h']
    · simp [h', Nat.lt_of_not_le h']
  | x :: M, o :: m, i, s + 1 => by
    have := unmaskL_get ch n M m (i + 1) s
    rw [show i + 1 + s = i + (s + 1) by omega] at this
    simp only [unmaskL, List.tail_cons, List.getElem?_cons_succ, this, List.length_cons, List.getD_cons_succ, Nat.add_lt_add_iff_right, Nat.add_max_add_right]

theorem unmaskL_eq (ch : List Nat) (n : Nat) (M m : List DE) : unmaskL ch n 0 M m = unmask ch n M m := by
  apply List.ext_getElem?
  intro s
  rw [unmaskL_get]
  unfold unmask
  rw [List.getElem?_map]
  by_cases hs : s < max M.length m.length
  · rw [if_pos hs, List.getElem?_range hs]; simp
  · rw [if_neg hs, List.getElem?_eq_none (by simpa using hs)]; rfl

end Go.Proofs.YtkcelehlilppcaaGreat
