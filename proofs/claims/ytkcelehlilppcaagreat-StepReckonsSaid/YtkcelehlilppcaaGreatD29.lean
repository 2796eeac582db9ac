/- Memory that nothing names any more is let go at a function's end; what is left is numbered anew. No condition. -/
import Derived.Test.YtkcelehlilppcaaGreatD28
set_option linter.unusedVariables false
set_option linter.unusedSimpArgs false
namespace Go.Proofs.YtkcelehlilppcaaGreat
open Go.RowKit Go.MapKept

abbrev Rho := Nat → Option Nat

mutual
def renV (ρ : Rho) : DV → Option DV
  | .any => some .any | .un => some .un | .pd p => some (.pd p) | .sa c => some (.sa c) | .np => some .np | .nm => some .nm | .nf => some .nf | .ni => some .ni | .em => some .em
  | .ptr i o => (ρ i).map (.ptr · o)
  | .ra i k j o => (ρ i).map (.ra · k j o)
  | .own i => (ρ i).map .own
  | .mp i => (ρ i).map .mp
  | .yld i => (ρ i).map .yld
  | .fn f a b => match renVs ρ a, renVs ρ b with | some a', some b' => some (.fn f a' b') | _, _ => none
  | .ifc t x => (renV ρ x).map (.ifc t)
  | .agg cs => (renVs ρ cs).map .agg
  | .tup cs => (renVs ρ cs).map .tup
def renVs (ρ : Rho) : List DV → Option (List DV)
  | [] => some []
  | x :: l => match renV ρ x, renVs ρ l with | some y, some m => some (y :: m) | _, _ => none
end

def renRows (ρ : Rho) : List (List DV) → Option (List (List DV))
  | [] => some []
  | x :: l => match renVs ρ x, renRows ρ l with | some y, some m => some (y :: m) | _, _ => none

def renEs (ρ : Rho) : List (DV × DV × Nat) → Option (List (DV × DV × Nat))
  | [] => some []
  | (a, b, c) :: l => match renV ρ a, renV ρ b, renEs ρ l with | some a', some b', some m => some ((a', b', c) :: m) | _, _, _ => none

def renE (ρ : Rho) : DE → Option DE
  | .free => some .free
  | .dead => some .dead
  | .dfr o => some (.dfr o)
  | .obj cs => (renVs ρ cs).map .obj
  | .row e k rs => (renRows ρ rs).map (.row e k)
  | .map es c => (renEs ρ es).map (.map · c)
  | .it none s l c => some (.it none s l c)
  | .it (some m) s l c => (ρ m).map fun m' => .it (some m') s l c
  | .loop ts ps as body d st pend => match renVs ρ ts, ρ d with | some ts', some d' => some (.loop ts' ps as body d' st pend) | _, _ => none

theorem renVs_get {ρ : Rho} : ∀ {l m : List DV}, renVs ρ l = some m → m.length = l.length ∧ ∀ (i : Nat) (y : DV), m[i]? = some y → ∃ x, l[i]? = some x ∧ renV ρ x = some y
  | [], m, h => by injection h with h; subst h; exact ⟨rfl, fun i y h => by simp at h⟩
  | x :: l, m, h => by
    simp only [renVs] at h
    split at h
    · rename_i y m' h1 h2
      injection h with h; subst h
      obtain ⟨a1, a2⟩ := renVs_get h2
      refine ⟨by simp [a1], fun i z hz => ?_⟩
      cases i with
      | zero => simp at hz; subst hz; exact ⟨x, rfl, h1⟩
      | succ i => simpa using a2 i z (by simpa using hz)
    · cases h

theorem renRows_get {ρ : Rho} : ∀ {l m : List (List DV)}, renRows ρ l = some m → m.length = l.length ∧ ∀ j, j < l.length → renVs ρ (l.getD j []) = some (m.getD j [])
  | [], m, h => by injection h with h; subst h; exact ⟨rfl, fun i h => by simp at h⟩
  | x :: l, m, h => by
    simp only [renRows] at h
    split at h
    · rename_i y m' h1 h2
      injection h with h; subst h
      obtain ⟨a1, a2⟩ := renRows_get h2
      refine ⟨by simp [a1], fun j hj => ?_⟩
      cases j with
      | zero => exact h1
      | succ j => simpa using a2 j (by simpa using hj)
    · cases h

theorem renEs_get {ρ : Rho} : ∀ {l m : List (DV × DV × Nat)}, renEs ρ l = some m → m.length = l.length ∧ ∀ (i : Nat) (y : DV × DV × Nat), m[i]? = some y → ∃ x, l[i]? = some x ∧ renV ρ x.1 = some y.1 ∧ renV ρ x.2.1 = some y.2.1 ∧ x.2.2 = y.2.2
  | [], m, h => by injection h with h; subst h; exact ⟨rfl, fun i y h => by simp at h⟩
  | (a, b, c) :: l, m, h => by
    simp only [renEs] at h
    split at h
    · rename_i a' b' m' h1 h2 h3
      injection h with h; subst h
      obtain ⟨q1, q2⟩ := renEs_get h3
      refine ⟨by simp [q1], fun i z hz => ?_⟩
      cases i with
      | zero => simp at hz; subst hz; exact ⟨_, rfl, h1, h2, rfl⟩
      | succ i => simpa using q2 i z (by simpa using hz)
    · cases h

/-- Ghosts under other numbers. -/
structure RG (ρ : Rho) (E E' : EV) : Prop where
  S : ∀ b, E.S b → E'.S b
  g : ∀ i k, ρ i = some k → E.al i → E'.al k ∧ E'.b k = E.b i ∧ E'.n k = E.n i ∧ E'.cap k = E.cap i

theorem VR.ren {ρ : Rho} {E E' : EV} {w : World} (h : RG ρ E E') {x : DV} {v : Value} (hx : VR E w x v) : ∀ y, renV ρ x = some y → VR E' w y v := by
  induction hx with
  | any v => intro y hy; injection hy with hy; subst hy; exact .any v
  | un => intro y hy; injection hy with hy; subst hy; exact .un
  | pd hp => intro y hy; injection hy with hy; subst hy; exact .pd (hp.mono h.S fun _ _ => rfl)
  | sa u hu => intro y hy; injection hy with hy; subst hy; exact .sa u fun i hi => ⟨h.S _ (hu i hi).1, (hu i hi).2.1, (hu i hi).2.2.mono h.S fun _ _ => rfl⟩
  | np => intro y hy; injection hy with hy; subst hy; exact .np
  | em => intro y hy; injection hy with hy; subst hy; exact .em
  | nm => intro y hy; injection hy with hy; subst hy; exact .nm
  | nf => intro y hy; injection hy with hy; subst hy; exact .nf
  | ni => intro y hy; injection hy with hy; subst hy; exact .ni
  | ptr ha =>
    intro y hy
    simp only [renV, Option.map_eq_some_iff] at hy
    obtain ⟨k, hk, rfl⟩ := hy
    obtain ⟨g1, g2, _, _⟩ := h.g _ _ hk ha
    rw [← g2]; exact .ptr g1
  | ra ha =>
    intro y hy
    simp only [renV, Option.map_eq_some_iff] at hy
    obtain ⟨k, hk, rfl⟩ := hy
    obtain ⟨g1, g2, _, _⟩ := h.g _ _ hk ha
    rw [← g2]; exact .ra g1
  | own ha =>
    intro y hy
    simp only [renV, Option.map_eq_some_iff] at hy
    obtain ⟨k, hk, rfl⟩ := hy
    obtain ⟨g1, g2, g3, g4⟩ := h.g _ _ hk ha
    rw [← g2, ← g3, ← g4]; exact .own g1
  | yld ha =>
    intro y hy
    simp only [renV, Option.map_eq_some_iff] at hy
    obtain ⟨k, hk, rfl⟩ := hy
    obtain ⟨g1, g2, _, _⟩ := h.g _ _ hk ha
    rw [← g2]; exact .yld g1
  | mp ha =>
    intro y hy
    simp only [renV, Option.map_eq_some_iff] at hy
    obtain ⟨k, hk, rfl⟩ := hy
    obtain ⟨g1, g2, _, _⟩ := h.g _ _ hk ha
    rw [← g2]; exact .mp g1
  | fn h1 h2 _ _ h3 h4 =>
    intro y hy
    simp only [renV] at hy
    split at hy
    · rename_i a' b' q1 q2
      injection hy with hy; subst hy
      obtain ⟨l1, e1⟩ := renVs_get q1
      obtain ⟨l2, e2⟩ := renVs_get q2
      exact .fn (by rw [h1, l1]) (by rw [h2, l2]) (fun i z v hz hv => by obtain ⟨x, hx, hr⟩ := e1 i z hz; exact h3 i x v hx hv z hr) (fun i z v hz hv => by obtain ⟨x, hx, hr⟩ := e2 i z hz; exact h4 i x v hx hv z hr)
    · cases hy
  | ifc _ ih =>
    intro y hy
    simp only [renV, Option.map_eq_some_iff] at hy
    obtain ⟨k, hk, rfl⟩ := hy
    exact .ifc (ih _ hk)
  | agg h1 _ h2 =>
    intro y hy
    simp only [renV, Option.map_eq_some_iff] at hy
    obtain ⟨k, hk, rfl⟩ := hy
    obtain ⟨l1, e1⟩ := renVs_get hk
    exact .agg (by rw [h1, l1]) fun i z v hz hv => by obtain ⟨x, hx, hr⟩ := e1 i z hz; exact h2 i x v hx hv z hr
  | tup h1 _ h2 =>
    intro y hy
    simp only [renV, Option.map_eq_some_iff] at hy
    obtain ⟨k, hk, rfl⟩ := hy
    obtain ⟨l1, e1⟩ := renVs_get hk
    exact .tup (by rw [h1, l1]) fun i z v hz hv => by obtain ⟨x, hx, hr⟩ := e1 i z hz; exact h2 i x v hx hv z hr

theorem LR.ren {ρ : Rho} {E E' : EV} {w : World} (h : RG ρ E E') {xs ys : List DV} {vs : Array Value} (hx : LR E w xs vs) (hy : renVs ρ xs = some ys) : LR E' w ys vs := by
  obtain ⟨l1, e1⟩ := renVs_get hy
  exact ⟨by rw [hx.1, l1], fun i z v hz hv => by obtain ⟨x, hx', hr⟩ := e1 i z hz; exact (hx.2 i x v hx' hv).ren h z hr⟩

theorem renE_live {ρ : Rho} {o o' : DE} (h : renE ρ o = some o') : (o'.live ↔ o.live) ∧ (o' = .free ↔ o = .free) := by
  cases o with
  | free => injection h with h; subst h; exact ⟨Iff.rfl, Iff.rfl⟩
  | dead => injection h with h; subst h; exact ⟨Iff.rfl, Iff.rfl⟩
  | dfr b => injection h with h; subst h; exact ⟨Iff.rfl, Iff.rfl⟩
  | obj cs => simp only [renE, Option.map_eq_some_iff] at h; obtain ⟨k, _, rfl⟩ := h; exact ⟨Iff.rfl, by simp⟩
  | row e k rs => simp only [renE, Option.map_eq_some_iff] at h; obtain ⟨k, _, rfl⟩ := h; exact ⟨Iff.rfl, by simp⟩
  | map es c => simp only [renE, Option.map_eq_some_iff] at h; obtain ⟨k, _, rfl⟩ := h; exact ⟨Iff.rfl, by simp⟩
  | it m s l c =>
    cases m with
    | none => injection h with h; subst h; exact ⟨Iff.rfl, Iff.rfl⟩
    | some m => simp only [renE, Option.map_eq_some_iff] at h; obtain ⟨k, _, rfl⟩ := h; exact ⟨Iff.rfl, by simp⟩
  | loop ts ps as body d st pend =>
    simp only [renE] at h
    split at h
    · injection h with h; subst h; exact ⟨Iff.rfl, by simp⟩
    · cases h

theorem OR.ren {ρ : Rho} {E E' : EV} {w : World} (h : RG ρ E E') {i k : Nat} {o o' : DE} (hk : ρ i = some k) (ha : o.live → E.al i) (ho : OR E w i o) (hr : renE ρ o = some o') : OR E' w k o' := by
  cases o with
  | free => injection hr with hr; subst hr; trivial
  | dead => injection hr with hr; subst hr; trivial
  | dfr b =>
    obtain ⟨g1, g2, g3, g4⟩ := h.g i k hk (ha trivial)
    injection hr with hr; subst hr
    show w.heap[E'.b k]? = _
    rw [g2]; exact ho
  | obj cs =>
    obtain ⟨g1, g2, g3, g4⟩ := h.g i k hk (ha trivial)
    simp only [renE, Option.map_eq_some_iff] at hr
    obtain ⟨cs', hc, rfl⟩ := hr
    obtain ⟨vs, e, h1, h2⟩ := ho
    exact ⟨vs, e, by rw [g2]; exact h1, h2.ren h hc⟩
  | row e q rs =>
    obtain ⟨g1, g2, g3, g4⟩ := h.g i k hk (ha trivial)
    simp only [renE, Option.map_eq_some_iff] at hr
    obtain ⟨rs', hc, rfl⟩ := hr
    obtain ⟨l1, e1⟩ := renRows_get hc
    obtain ⟨h1, h2, h3, cur, h4, h5, h6⟩ := ho
    refine ⟨by rw [g3, h1, l1], by rw [l1, g4]; exact h2, by rw [g4]; exact h3, cur, by rw [g2]; exact h4, by rw [g4]; exact h5, fun j c hj hc' => ?_⟩
    rw [l1] at hj
    obtain ⟨v, h7, h8⟩ := h6 j c hj hc'
    refine ⟨v, h7, ?_⟩
    obtain ⟨l2, e2⟩ := renVs_get (e1 j hj)
    cases hz : (rs'.getD j [])[c]? with
    | none => rw [List.getD_eq_getElem?_getD (l := rs'.getD j []), hz]; exact .any v
    | some z =>
      obtain ⟨x, hx, hr2⟩ := e2 c z hz
      rw [List.getD_eq_getElem?_getD (l := rs.getD j []), hx] at h8
      rw [List.getD_eq_getElem?_getD (l := rs'.getD j []), hz]
      exact VR.ren h h8 z hr2
  | map es c =>
    obtain ⟨g1, g2, g3, g4⟩ := h.g i k hk (ha trivial)
    simp only [renE, Option.map_eq_some_iff] at hr
    obtain ⟨es', hc, rfl⟩ := hr
    obtain ⟨l1, e1⟩ := renEs_get hc
    obtain ⟨en, h1, h2, h3⟩ := ho
    refine ⟨en, by rw [g2]; exact h1, by rw [h2, l1], fun q y m hy hm => ?_⟩
    obtain ⟨x, q1, q2, q3, q4⟩ := e1 q y hy
    obtain ⟨r1, r2, r3⟩ := h3 q x m q1 hm
    exact ⟨r1.ren h _ q2, r2.ren h _ q3, r3.trans q4⟩
  | it m s l c =>
    obtain ⟨g1, g2, g3, g4⟩ := h.g i k hk (ha trivial)
    obtain ⟨h1, h2⟩ := ho
    cases m with
    | none =>
      injection hr with hr; subst hr
      exact ⟨by rw [g2]; exact h1, fun j hj => by cases hj⟩
    | some m =>
      simp only [renE, Option.map_eq_some_iff] at hr
      obtain ⟨m', hc, rfl⟩ := hr
      obtain ⟨f1, f2, _, _⟩ := h.g m m' hc (h2 m rfl)
      refine ⟨by rw [g2, h1]; simp only [Option.map_some, f2], fun j hj => ?_⟩
      injection hj with hj; subst hj; exact f1
  | loop ts ps as body d st pend =>
    obtain ⟨g1, g2, g3, g4⟩ := h.g i k hk (ha trivial)
    simp only [renE] at hr
    split at hr
    · rename_i ts' d' q1 q2
      injection hr with hr; subst hr
      obtain ⟨fn, tmps, h1, h2, h3⟩ := ho
      obtain ⟨f1, f2, _, _⟩ := h.g d d' q2 h3
      exact ⟨fn, tmps, by rw [g2, h1, f2], h2.ren h q1, f1⟩
    · cases hr

/-! ### What is kept -/
def idx (l : List Nat) (i : Nat) : Nat → Option Nat
  | k => match l with | [] => none | x :: l => if x = i then some k else idx l i (k + 1)

theorem idx_get : ∀ {l : List Nat} {i q k : Nat}, idx l i q = some k → q ≤ k ∧ l[k - q]? = some i
  | [], i, q, k, h => by simp [idx] at h
  | x :: l, i, q, k, h => by
    simp only [idx] at h
    split at h
    · rename_i hx
      injection h with h; subst h hx
      exact ⟨Nat.le_refl _, by simp⟩
    · obtain ⟨h1, h2⟩ := idx_get h
      refine ⟨by omega, ?_⟩
      rw [show k - q = (k - (q + 1)) + 1 by omega]
      simpa using h2

def rho (n : Nat) (keep : List Nat) : Rho := fun i => if i < n then some i else idx keep i n

def renAll (ρ : Rho) : List DE → Option (List DE)
  | [] => some []
  | o :: l => match renE ρ o, renAll ρ l with | some a, some b => some (a :: b) | _, _ => none

theorem renAll_get {ρ : Rho} : ∀ {l m : List DE}, renAll ρ l = some m → m.length = l.length ∧ ∀ (i : Nat) (y : DE), m[i]? = some y → ∃ x, l[i]? = some x ∧ renE ρ x = some y
  | [], m, h => by injection h with h; subst h; exact ⟨rfl, fun i y h => by simp at h⟩
  | x :: l, m, h => by
    simp only [renAll] at h
    split at h
    · rename_i y m' h1 h2
      injection h with h; subst h
      obtain ⟨a1, a2⟩ := renAll_get h2
      refine ⟨by simp [a1], fun i z hz => ?_⟩
      cases i with
      | zero => simp at hz; subst hz; exact ⟨x, rfl, h1⟩
      | succ i => simpa using a2 i z (by simpa using hz)
    · cases h

def nodupB : List Nat → Bool
  | [] => true
  | x :: l => !l.contains x && nodupB l

theorem nodupB_inj : ∀ {l : List Nat}, nodupB l = true → ∀ (i j x : Nat), l[i]? = some x → l[j]? = some x → i = j
  | [], _, i, j, x, h, _ => by simp at h
  | y :: l, hn, i, j, x, hi, hj => by
    simp only [nodupB, Bool.and_eq_true, Bool.not_eq_true'] at hn
    have hno : ∀ k, l[k]? ≠ some y := fun k hk => by
      have : y ∈ l := List.mem_of_getElem? hk
      have := hn.1
      simp_all
    cases i with
    | zero =>
      cases j with
      | zero => rfl
      | succ j => simp at hi hj; subst hi; exact absurd hj (hno j)
    | succ i =>
      cases j with
      | zero => simp at hi hj; subst hj; exact absurd hi (hno i)
      | succ j => simp at hi hj; rw [nodupB_inj hn.2 i j x hi hj]

def renZ (ρ : Rho) : DZ → Option DZ
  | .ret v => (renV ρ v).map .ret
  | .pan v => (renV ρ v).map .pan

/-- The numbers from a bound on that are reached. -/
def reachG (n : Nat) (M : List DE) : Nat → List Nat → List Nat → List Nat
  | 0, _, seen => seen
  | _ + 1, [], seen => seen
  | k + 1, i :: todo, seen => if i < n ∨ seen.contains i = true then reachG n M k todo seen else reachG n M k (numO (M.getD i .dead) ++ todo) (i :: seen)

def numZ : DZ → List Nat | .ret v => numV v | .pan v => numV v

/-- What stays, numbered anew. -/
def gcD (n : Nat) (z : DZ) (M : List DE) : DZ × List DE :=
  let keep := reachG n M 10000 (numZ z ++ (M.take n).flatMap numO) []
  let ρ := rho n keep
  match nodupB keep && keep.all (fun i => decide (n ≤ i)), renZ ρ z, renAll ρ (M.take n ++ keep.map fun i => M.getD i .dead) with
  | true, some z', some M' => (z', M')
  | _, _, _ => (z, M)

theorem idx_some : ∀ {l : List Nat} {i q p : Nat}, l[p]? = some i → ∃ k, idx l i q = some k
  | [], i, q, p, h => by simp at h
  | x :: l, i, q, p, h => by
    simp only [idx]
    by_cases hx : x = i
    · exact ⟨q, by simp [hx]⟩
    · rw [if_neg hx]
      cases p with
      | zero => simp at h; exact absurd h hx
      | succ p => exact idx_some (p := p) (by simpa using h)

theorem gc_sound {C : CX} {E : EV} {M : List DE} {w : World} {z : DZ} {e : Ending} (hCE : ∀ i, C.E.al i → i < C.M.length) (hl : C.M.length ≤ M.length) (hH : HR E M w) (hX : XT C E M w) (hZ : ZR E w z e) :
    ∃ E', HR E' (gcD C.M.length z M).2 w ∧ XT C E' (gcD C.M.length z M).2 w ∧ ZR E' w (gcD C.M.length z M).1 e := by
  generalize hn : C.M.length = n at *
  unfold gcD
  simp only
  generalize reachG n M 10000 (numZ z ++ (M.take n).flatMap numO) [] = keep
  split
  · rename_i z' M' hnd hz hM
    simp only [Bool.and_eq_true] at hnd
    obtain ⟨hnd, hge⟩ := hnd
    have hge : ∀ i ∈ keep, n ≤ i := fun i hi => by simpa using List.all_eq_true.1 hge i hi
    simp only
    obtain ⟨hlen, hget⟩ := renAll_get hM
    have htake : (M.take n).length = n := by simp; omega
    -- the place of a number
    have hrho : ∀ (k i : Nat), n ≤ k → keep[k - n]? = some i → rho n keep i = some k := fun k i hk hi => by
      have h1 := hge i (List.mem_of_getElem? hi)
      unfold rho
      rw [if_neg (by omega)]
      obtain ⟨k', hk'⟩ := idx_some (q := n) hi
      obtain ⟨h2, h3⟩ := idx_get hk'
      have := nodupB_inj hnd _ _ _ hi h3
      rw [hk']; congr 1; omega
    have hsrc : ∀ (k : Nat) (x : DE), (M.take n ++ keep.map fun i => M.getD i .dead)[k]? = some x → ∃ i, rho n keep i = some k ∧ (M[i]? = some x ∨ x = .dead) ∧ (k < n → i = k ∧ M[k]? = some x) ∧ (n ≤ k → keep[k - n]? = some i) := fun k x hk => by
      rcases Nat.lt_or_ge k n with h | h
      · rw [List.getElem?_append_left (by omega), List.getElem?_take, if_pos h] at hk
        exact ⟨k, by simp [rho, h], .inl hk, fun _ => ⟨rfl, hk⟩, fun h' => by omega⟩
      · rw [List.getElem?_append_right (by omega), htake, List.getElem?_map] at hk
        cases hi : keep[k - n]? with
        | none => rw [hi] at hk; cases hk
        | some i =>
          rw [hi] at hk
          simp only [Option.map_some, Option.some.injEq] at hk
          refine ⟨i, hrho k i h hi, ?_, fun h' => by omega, fun _ => rfl⟩
          rw [List.getD_eq_getElem?_getD] at hk
          cases hM2 : M[i]? with
          | none => rw [hM2] at hk; exact .inr hk.symm
          | some o => rw [hM2] at hk; exact .inl (congrArg some hk)
    let E2 : EV := ⟨E.S, fun k => (k < n ∧ E.al k) ∨ (n ≤ k ∧ ∃ i, keep[k - n]? = some i ∧ E.al i), fun k => if k < n then E.b k else E.b (keep.getD (k - n) 0), fun k => if k < n then E.n k else E.n (keep.getD (k - n) 0), fun k => if k < n then E.cap k else E.cap (keep.getD (k - n) 0)⟩
    have hG : RG (rho n keep) E E2 := ⟨fun _ h => h, fun i k hk ha => by
      unfold rho at hk
      split at hk
      · rename_i h
        injection hk with hk; subst hk
        exact ⟨.inl ⟨h, ha⟩, by simp [E2, h], by simp [E2, h], by simp [E2, h]⟩
      · obtain ⟨h1, h2⟩ := idx_get hk
        have h3 : ¬ k < n := by omega
        have h4 : keep.getD (k - n) 0 = i := by rw [List.getD_eq_getElem?_getD, h2]; rfl
        refine ⟨.inr ⟨h1, i, h2, ha⟩, ?_, ?_, ?_⟩ <;> simp only [E2, h3, if_false, h4]⟩
    have hpre : ∀ (k : Nat) (y : DE), M'[k]? = some y → y.live → ∃ i x, rho n keep i = some k ∧ M[i]? = some x ∧ x.live ∧ renE (rho n keep) x = some y ∧ E.al i := fun k y hk hl => by
      obtain ⟨x, hx, hr⟩ := hget k y hk
      have hxl := (renE_live hr).1.1 hl
      obtain ⟨i, h1, h2, _, _⟩ := hsrc k x hx
      rcases h2 with h2 | rfl
      · exact ⟨i, x, h1, h2, hxl, hr, hH.la i x h2 hxl⟩
      · exact hxl.elim
    have hnf : ∀ (k : Nat), E2.al k → ∃ y, M'[k]? = some y ∧ y ≠ .free := fun k hk => by
      have hx : ∃ x, (M.take n ++ keep.map fun i => M.getD i .dead)[k]? = some x ∧ x ≠ .free := by
        rcases hk with ⟨h1, h2⟩ | ⟨h1, i, h2, h3⟩
        · obtain ⟨o, ho, hf⟩ := hH.al k h2
          exact ⟨o, by rw [List.getElem?_append_left (by omega), List.getElem?_take, if_pos h1]; exact ho, hf⟩
        · obtain ⟨o, ho, hf⟩ := hH.al i h3
          exact ⟨o, by rw [List.getElem?_append_right (by omega), htake, List.getElem?_map, h2, Option.map_some, List.getD_eq_getElem?_getD, ho]; rfl, hf⟩
      obtain ⟨x, hx, hf⟩ := hx
      have hlt : k < M'.length := by rw [hlen]; exact (List.getElem?_eq_some_iff.1 hx).1
      refine ⟨M'[k], List.getElem?_eq_getElem hlt, fun hfree => ?_⟩
      obtain ⟨x', hx', hr⟩ := hget k _ (List.getElem?_eq_getElem hlt)
      rw [hx] at hx'; injection hx' with hx'; subst hx'
      exact hf ((renE_live hr).2.1 hfree)
    refine ⟨E2, ⟨fun k y hk => ?_, fun k y hk hl => ?_, fun k k' y y' hk hk' hl hl' he => ?_, hnf, fun k y hk hl => ?_, hH.slt⟩, ⟨hX.os, hX.tape, hX.output, hX.size, hX.old, hX.S, hX.new, fun i hi => ?_, fun i hi => .inl ⟨hCE i hi, hX.al i hi⟩, fun k y hk hl => ?_, fun k hk => ?_, fun k o ho hf => ?_⟩, ?_⟩
    · obtain ⟨x, hx, hr⟩ := hget k y hk
      obtain ⟨i, h1, h2, _, _⟩ := hsrc k x hx
      rcases h2 with h2 | rfl
      · exact OR.ren hG h1 (hH.la i x h2) (hH.objs i x h2) hr
      · injection hr with hr; subst hr; trivial
    · obtain ⟨i, x, h1, h2, h3, _, h5⟩ := hpre k y hk hl
      rw [(hG.g i k h1 h5).2.1]
      exact hH.lt i x h2 h3
    · obtain ⟨i, x, h1, h2, h3, _, h5⟩ := hpre k y hk hl
      obtain ⟨i', x', h1', h2', h3', _, h5'⟩ := hpre k' y' hk' hl'
      rw [(hG.g i k h1 h5).2.1, (hG.g i' k' h1' h5').2.1] at he
      have := hH.inj i i' x x' h2 h2' h3 h3' he
      subst this
      rw [h1] at h1'; injection h1'
    · obtain ⟨i, x, h1, h2, h3, _, h5⟩ := hpre k y hk hl
      exact (hG.g i k h1 h5).1
    · have hlt := hCE i hi
      obtain ⟨g1, g2, g3⟩ := hX.own i hi
      simp only [E2, hlt, if_true]
      exact ⟨g1, g2, g3⟩
    · obtain ⟨i, x, h1, h2, h3, _, h5⟩ := hpre k y hk hl
      rw [(hG.g i k h1 h5).2.1]
      exact hX.liv i x h2 h3
    · rcases hk with ⟨_, h2⟩ | ⟨h1, _⟩
      · exact hX.fre k h2
      · exact .inr fun o ho => by have := lt_of_getElem? ho; omega
    · have hlt := lt_of_getElem? ho
      obtain ⟨o', h1, h2⟩ := hX.nof k o ho hf
      have hx : (M.take n ++ keep.map fun i => M.getD i .dead)[k]? = some o' := by rw [List.getElem?_append_left (by omega), List.getElem?_take, if_pos (by omega)]; exact h1
      have hlt' : k < M'.length := by rw [hlen]; exact (List.getElem?_eq_some_iff.1 hx).1
      refine ⟨M'[k], List.getElem?_eq_getElem hlt', fun hfree => ?_⟩
      obtain ⟨x', hx', hr⟩ := hget k _ (List.getElem?_eq_getElem hlt')
      rw [hx] at hx'; injection hx' with hx'; subst hx'
      exact h2 ((renE_live hr).2.1 hfree)
    · cases z with
      | ret v =>
        simp only [renZ, Option.map_eq_some_iff] at hz
        obtain ⟨v', hv, rfl⟩ := hz
        obtain ⟨u, rfl, hu⟩ := hZ
        exact ⟨u, rfl, hu.ren hG v' hv⟩
      | pan v =>
        simp only [renZ, Option.map_eq_some_iff] at hz
        obtain ⟨v', hv, rfl⟩ := hz
        obtain ⟨u, rfl, hu⟩ := hZ
        exact ⟨u, rfl, hu.ren hG v' hv⟩
  · exact ⟨E, hH, hX, hZ⟩

/-- Calls, level by level, as before, with memory let go behind those functions that 'gf' tells. -/
def xlevG (P : Program) (xd : Co → Xd) (gf : FuncId → Bool) (B : Nat) : Nat → Co
  | 0, _, _, _ => none
  | k + 1, .inl f, args, M =>
    match xfun P (xlevG P xd gf B k) (xd (xlevG P xd gf B k)) (xrange (xlevG P xd gf B k)) (xdfn P (xlevG P xd gf B k) (xd (xlevG P xd gf B k)) (xrange (xlevG P xd gf B k)) B) B f args M with
    | some (z, M') => if gf f && decide (M.length ≤ M'.length) then some (gcD M.length z M') else some (z, M')
    | none => none
  | k + 1, .inr id, args, M => xyield P (xlevG P xd gf B k) (xd (xlevG P xd gf B k)) (xrange (xlevG P xd gf B k)) B id args M

theorem xlevG_sound {P : Program} {xd : Co → Xd} (hxd : ∀ co, CoOk P co → XdOk P (xd co)) (gf : FuncId → Bool) (B : Nat) : ∀ k, CoOk P (xlevG P xd gf B k)
  | 0 => ⟨fun f args M r M' h => by simp [xlevG] at h, fun id args M r M' h => by simp [xlevG] at h⟩
  | k + 1 => by
    have ih := xlevG_sound hxd gf B k
    refine ⟨fun f args M r M' h => ?_, fun id args M r M' h => ?_⟩
    · simp only [xlevG] at h
      split at h
      · rename_i z M1 hz
        have hs := xfun_sound ih (hxd _ ih) (xrange_sound ih) (xdfn_sound ih (hxd _ ih) (xrange_sound ih) B) hz
        split at h
        · rename_i hc
          simp only [Bool.and_eq_true, decide_eq_true_eq] at hc
          injection h with h
          have e1 : r = (gcD M.length z M1).1 := by rw [h]
          have e2 : M' = (gcD M.length z M1).2 := by rw [h]
          subst e1 e2
          refine ⟨hs.1, fun E w vs hH hL => (hs.2 E w vs hH hL).mono ?_⟩
          rintro e w' ⟨E', g1, g2, g3⟩
          obtain ⟨E2, q1, q2, q3⟩ := gc_sound (C := ⟨w, E, M, []⟩) (fun i hi => by obtain ⟨o, ho, _⟩ := hH.al i hi; exact lt_of_getElem? ho) hc.2 g1 g3 g2
          exact ⟨E2, q1, q3, q2⟩
        · injection h with h; injection h with h1 h2; subst h1 h2; exact hs
      · cases h
    · exact xyield_sound ih (hxd _ ih) (xrange_sound ih) B id args M r M' (by simpa [xlevG] using h)

end Go.Proofs.YtkcelehlilppcaaGreat
