/- Maps. No condition. -/
import Derived.Test.YtkcelehlilppcaaGreatD13
import Derived.MapKept
import Derived.WideKeyRuns
import Derived.RangeFuncOwn
import Derived.Laws.IdiomRangeMap
set_option linter.unusedVariables false
set_option linter.unusedSimpArgs false
namespace Go.Proofs.YtkcelehlilppcaaGreat
open Go.RowKit Go.MapKept

/-! ### Keys -/
def seqD : TypeDesc → DV → DV → Option Bool
  | .int _, .pd (.int k a), .pd (.int k' b) => if k = k' then some (a == b) else none
  | .string, .pd (.str a), .pd (.str b) => some (a == b)
  | .bool, .pd (.bool a), .pd (.bool b) => some (a == b)
  | _, _, _ => none

theorem bytes_mk_beq (a b : List UInt8) : ((⟨⟨a⟩⟩ : ByteArray) == ⟨⟨b⟩⟩) = (a == b) := by
  rw [Bool.eq_iff_iff, bytes_beq]
  simp

theorem seqD_sound {E : EV} {w : World} {d : TypeDesc} {x y : DV} {u z : Value} {r : Bool} (h : seqD d x y = some r) (hx : VR E w x u) (hy : VR E w y z) : Instr.sameNow d u z = some r := by
  unfold seqD at h
  split at h
  · cases hx with
    | pd hp => cases hy with
      | pd hq => cases hp; cases hq; exact h
  · cases hx with
    | pd hp => cases hy with
      | pd hq =>
        cases hp; cases hq
        simp only [Instr.sameNow, bytes_mk_beq]
        exact h
  · cases hx with
    | pd hp => cases hy with
      | pd hq => cases hp; cases hq; exact h
  · cases h

def isStr : TypeDesc → Bool | .struct _ => true | _ => false

/-- The place of a key among entries. -/
def fkD (P : Program) (kt : TypeId) (d : TypeDesc) (x : DV) : List (DV × DV × Nat) → Nat → Option (Option Nat)
  | [], _ => some none
  | e :: es, i => match (if isStr d then eqD P 8 kt x e.1 else seqD d x e.1) with | some true => some (some i) | some false => fkD P kt d x es (i + 1) | none => none

theorem findNow_D {P : Program} {E : EV} {w : World} {kt : TypeId} {d : TypeDesc} {x : DV} {u : Value} (hd : isStr d = false) (hx : VR E w x u) :
    ∀ (es : List (DV × DV × Nat)) (en : List MapEntry) (i : Nat) (r : Option Nat), fkD P kt d x es i = some r → en.length = es.length →
      (∀ (q : Nat) (y : DV × DV × Nat) (m : MapEntry), es[q]? = some y → en[q]? = some m → VR E w y.1 m.key) →
      (r = none ∧ Instr.findNow d u en i = some none) ∨ ∃ j m, r = some (i + j) ∧ en[j]? = some m ∧ Instr.findNow d u en i = some (some (i + j, m.val)) := by
  intro es
  induction es with
  | nil =>
    intro en i r h hl _
    cases en with
    | nil => simp only [fkD, Option.some.injEq] at h; exact .inl ⟨h.symm, rfl⟩
    | cons => simp at hl
  | cons e es ih =>
    intro en i r h hl hk
    cases en with
    | nil => simp at hl
    | cons m en =>
      simp only [fkD, hd, Bool.false_eq_true, if_false] at h
      have h0 := hk 0 e m rfl rfl
      split at h
      · rename_i hs
        injection h with h; subst h
        exact .inr ⟨0, m, rfl, rfl, by simp [Instr.findNow, seqD_sound hs hx h0]⟩
      · rename_i hs
        have hs' := seqD_sound hs hx h0
        rcases ih en (i + 1) r h (by simpa using hl) (fun q y m' hy hm => hk (q + 1) y m' hy hm) with ⟨h1, h2⟩ | ⟨j, m', h1, h2, h3⟩
        · exact .inl ⟨h1, by simp [Instr.findNow, hs', h2]⟩
        · exact .inr ⟨j + 1, m', by rw [h1]; congr 1; omega, by simpa using h2, by simp [Instr.findNow, hs', h3]; omega⟩
      · cases h

theorem findAsk_D {P : Program} {E : EV} {w : World} {kt : TypeId} {d : TypeDesc} {x : DV} {u : Value} (hd : isStr d = true) (hx : VR E w x u) :
    ∀ (es : List (DV × DV × Nat)) (en : List MapEntry) (i : Nat) (r : Option Nat), fkD P kt d x es i = some r → en.length = es.length →
      (∀ (q : Nat) (y : DV × DV × Nat) (m : MapEntry), es[q]? = some y → en[q]? = some m → VR E w y.1 m.key) →
      (r = none ∧ (Instr.findAsking kt u en i).run P w = .ok none w) ∨ ∃ j m, r = some (i + j) ∧ en[j]? = some m ∧ (Instr.findAsking kt u en i).run P w = .ok (some (i + j, m.val)) w := by
  intro es
  induction es with
  | nil =>
    intro en i r h hl _
    cases en with
    | nil => simp only [fkD, Option.some.injEq] at h; exact .inl ⟨h.symm, rfl⟩
    | cons => simp at hl
  | cons e es ih =>
    intro en i r h hl hk
    cases en with
    | nil => simp at hl
    | cons m en =>
      simp only [fkD, hd, if_true] at h
      have h0 := hk 0 e m rfl rfl
      split at h
      · rename_i hs
        injection h with h; subst h
        have he := eqD_sound 8 10000 (by omega) kt x e.1 true u m.key hs hx h0
        exact .inr ⟨0, m, rfl, rfl, by simp only [Instr.findAsking, Sem.run_bind, Op.equal, Op.maxDepth]; rw [he]; simp⟩
      · rename_i hs
        have he := eqD_sound 8 10000 (by omega) kt x e.1 false u m.key hs hx h0
        rcases ih en (i + 1) r h (by simpa using hl) (fun q y m' hy hm => hk (q + 1) y m' hy hm) with ⟨h1, h2⟩ | ⟨j, m', h1, h2, h3⟩
        · exact .inl ⟨h1, by simp only [Instr.findAsking, Sem.run_bind, Op.equal, Op.maxDepth]; rw [he]; simpa using h2⟩
        · refine .inr ⟨j + 1, m', by rw [h1]; congr 1; omega, by simpa using h2, ?_⟩
          simp only [Instr.findAsking, Sem.run_bind, Op.equal, Op.maxDepth]; rw [he]
          simp only [Result.andThen_ok, Bool.false_eq_true, if_false, h3]
          rw [show i + 1 + j = i + (j + 1) by omega]
      · cases h

theorem fkD_sound {P : Program} {E : EV} {w : World} {kt : TypeId} {d : TypeDesc} {x : DV} {u : Value} {es : List (DV × DV × Nat)} {en : Array MapEntry} {r : Option Nat} (hd : P.underlying kt = some d)
    (h : fkD P kt d x es 0 = some r) (hx : VR E w x u) (hl : en.size = es.length) (hk : ∀ (q : Nat) (y : DV × DV × Nat) (m : MapEntry), es[q]? = some y → en[q]? = some m → VR E w y.1 m.key) :
    (r = none ∧ (Instr.findKey kt u en.toList).run P w = .ok none w) ∨ ∃ j m, r = some j ∧ en[j]? = some m ∧ (Instr.findKey kt u en.toList).run P w = .ok (some (j, m.val)) w := by
  have hk' : ∀ (q : Nat) (y : DV × DV × Nat) (m : MapEntry), es[q]? = some y → en.toList[q]? = some m → VR E w y.1 m.key := fun q y m hy hm => hk q y m hy (by simpa using hm)
  cases hs : isStr d with
  | false =>
    rcases findNow_D (P := P) (kt := kt) hs hx es en.toList 0 r h (by simpa using hl) hk' with ⟨h1, h2⟩ | ⟨j, m, h1, h2, h3⟩
    · exact .inl ⟨h1, run_findKey hd h2⟩
    · rw [Nat.zero_add] at h1 h3
      exact .inr ⟨j, m, h1, by simpa using h2, run_findKey hd h3⟩
  | true =>
    have heq := run_findKey_eq (P := P) (w := w) (k := kt) (by rw [hd]; cases d <;> simp [isStr] at hs ⊢) u en.toList
    rcases findAsk_D (P := P) (kt := kt) hs hx es en.toList 0 r h (by simpa using hl) hk' with ⟨h1, h2⟩ | ⟨j, m, h1, h2, h3⟩
    · exact .inl ⟨h1, by rw [heq]; exact h2⟩
    · rw [Nat.zero_add] at h1 h3
      exact .inr ⟨j, m, h1, by simpa using h2, by rw [heq]; exact h3⟩

/-- May a value be a key? -/
def ckF (P : Program) (Q : TypeId → DV → Bool) (cs : List DV) : List Field → Bool
  | [] => true
  | f :: fs =>
    if f.name = "_" then ckF P Q cs fs else
    match P.info? f.type, P.underlying f.type with
    | some i, some d => partOk i d cs f.offset && Q f.type (partD i d cs f.offset) && ckF P Q cs fs
    | _, _ => false

def ckD (P : Program) : Nat → TypeId → DV → Bool
  | 0, _, _ => false
  | n + 1, t, x =>
    match P.underlying t with
    | some .string | some (.int _) | some .bool => (match x with | .pd _ => true | _ => false)
    | some (.struct fs) => (match x with | .agg cs => ckF P (ckD P n) cs fs.toList | _ => false)
    | _ => false

theorem ckD_sound {P : Program} {E : EV} {w : World} (b : Bool) : ∀ (n D : Nat), n ≤ D → ∀ (t : TypeId) (x : DV) (u : Value), ckD P n t x = true → VR E w x u → (Instr.checkKey b D t u).run P w = .ok () w := by
  intro n
  induction n with
  | zero => intro D _ t x u h; simp [ckD] at h
  | succ n ih =>
    intro D hD t x u h hx
    obtain ⟨D, rfl⟩ : ∃ m, D = m + 1 := ⟨D - 1, by omega⟩
    unfold ckD at h
    split at h
    · rename_i ht
      split at h
      · simp [Instr.checkKey, run_und ht]
      · cases h
    · rename_i k ht
      split at h
      · simp [Instr.checkKey, run_und ht]
      · cases h
    · rename_i ht
      split at h
      · simp [Instr.checkKey, run_und ht]
      · cases h
    · rename_i fs ht
      split at h
      · rename_i cs
        cases hx with
        | agg h1 h2 =>
          rename_i vs
          have key : ∀ (l : List Field), ckF P (ckD P n) cs l = true →
              (forIn l PUnit.unit (fun f _ => (if f.name ≠ "_" then do
                  let p ← part f.type vs f.offset
                  Instr.checkKey b D f.type p
                  pure (ForInStep.yield PUnit.unit)
                else pure (ForInStep.yield PUnit.unit) : Sem (ForInStep PUnit)))).run P w = .ok PUnit.unit w := by
            intro l
            induction l with
            | nil => intro _; rfl
            | cons f l ihl =>
              intro hl
              unfold ckF at hl
              rw [List.forIn_cons]
              split at hl
              · rename_i hn
                simp only [hn, ne_eq, not_true_eq_false, if_false, Sem.run_bind, Sem.run_pure, Result.andThen_ok]
                exact ihl hl
              · rename_i hn
                split at hl
                · rename_i i d hi hd
                  simp only [Bool.and_eq_true] at hl
                  obtain ⟨⟨g1, g2⟩, g3⟩ := hl
                  obtain ⟨r1, hr1, hv1⟩ := partD_sound (E := E) (w := w) hi hd ⟨h1, h2⟩ f.offset g1
                  have := ih D (by omega) f.type _ r1 g2 hv1
                  simp only [ne_eq, hn, not_false_eq_true, if_true, Sem.run_bind, hr1, this, Sem.run_pure, Result.andThen_ok]
                  exact ihl g3
                · cases hl
          have hk := key fs.toList h
          rw [Array.forIn_toList] at hk
          simp only [Instr.checkKey, Sem.run_bind, run_und ht, Result.andThen_ok]
          rw [hk]; rfl
      · cases h
    · cases h

/-! ### Reading -/
theorem gobj {P : Program} {w : World} {r : Nat} {o : Obj} (h : w.heap[r]? = some o) (hn : o.isCells = false := by rfl) : (getObj r).run P w = .ok o w := by
  cases o <;> simp_all [getObj, Sem.run, Obj.isCells]
theorem sobj {P : Program} {w : World} {r : Nat} {o : Obj} (o' : Obj) (h : w.heap[r]? = some o) (hn : o.isCells = false := by rfl) : (setObj r o').run P w = .ok () { w with heap := w.heap.setIfInBounds r o' } := by
  cases o <;> simp_all [setObj, Sem.run, Obj.isCells]

def zeroV (P : Program) (t : TypeId) : Option DV :=
  match P.info? t with
  | some i => match i.zero with | some z => some (cv z) | none => none
  | none => none

theorem zeroV_sound {P : Program} {t : TypeId} {v : DV} (h : zeroV P t = some v) (E : EV) (w : World) : ∃ z, (zeroValue t).run P w = .ok z w ∧ VR E w v z := by
  unfold zeroV at h
  split at h
  · rename_i i hi
    split at h
    · rename_i z hz
      injection h with h; subst h
      exact ⟨z, by simp [zeroValue, typeInfo, hi, hz], cv_sound E w z⟩
    · cases h
  · cases h

def okD (ok : Bool) (v : DV) (b : Bool) : DV := if ok then .tup [v, .pd (.bool b)] else v

theorem okD_sound {E : EV} {w : World} {v : DV} {u : Value} (ok b : Bool) (h : VR E w v u) : VR E w (okD ok v b) (if ok then .tuple #[u, .bool b] else u) := by
  cases ok with
  | false => exact h
  | true =>
    refine .tup rfl fun i x y h1 h2 => ?_
    cases i with
    | zero => simp at h1 h2; subst h1 h2; exact h
    | succ i =>
      cases i with
      | zero => simp at h1 h2; subst h1 h2; exact .pd (.bool b)
      | succ i => simp at h1

def lkD (P : Program) (M : List DE) (t : TypeId) (x y : DV) (ok : Bool) : Option DV :=
  match P.underlying t with
  | some (.map kt et) =>
    match P.underlying kt with
    | some d =>
      match x with
      | .nm => if ckD P 8 kt y then (zeroV P et).map fun z => okD ok z false else none
      | .mp id =>
        match M[id]? with
        | some (.map es _) =>
          if ckD P 8 kt y then
            match fkD P kt d y es 0 with
            | some (some i) => (es[i]?).map fun e => okD ok e.2.1 true
            | some none => (zeroV P et).map fun z => okD ok z false
            | none => none
          else none
        | _ => none
      | _ => none
    | none => none
  | _ => none

theorem run_findKey_nil {P : Program} {w : World} {kt : TypeId} {d : TypeDesc} (hd : P.underlying kt = some d) (u : Value) : (Instr.findKey kt u []).run P w = .ok none w := by
  simp [Instr.findKey, run_und hd, Instr.findNow]

theorem lkD_sound {P : Program} {E : EV} {w : World} {M : List DE} {t : TypeId} {x y v : DV} {ok : Bool} {u z : Value} (h : lkD P M t x y ok = some v) (hx : VR E w x u) (hy : VR E w y z) (hH : HR E M w) :
    ∃ r, (Instr.lookup t u z ok).run P w = .ok r w ∧ VR E w v r := by
  unfold lkD at h
  split at h
  · rename_i kt et ht
    split at h
    · rename_i d hd
      split at h
      · cases hx
        split at h
        · rename_i hck
          simp only [Option.map_eq_some_iff] at h
          obtain ⟨zd, hz, rfl⟩ := h
          obtain ⟨zv, hz1, hz2⟩ := zeroV_sound hz E w
          have hc := ckD_sound true 8 10000 (by omega) kt y z hck hy
          refine ⟨_, ?_, okD_sound ok false hz2⟩
          simp only [Instr.lookup, Sem.run_bind, run_und ht, Result.andThen_ok, Sem.run_pure, Array.isEmpty_empty, hc, run_findKey_nil hd, hz1]
        · cases h
      · rename_i id
        split at h
        · rename_i es cl hM
          cases hx with
          | mp ha =>
            obtain ⟨en, hh, hsz, hen⟩ := hH.objs _ _ hM
            split at h
            · rename_i hck
              have hc := ckD_sound (P := P) (E := E) (w := w) en.isEmpty 8 10000 (by omega) kt y z hck hy
              have hg := gobj (P := P) hh
              split at h
              · rename_i i hf
                simp only [Option.map_eq_some_iff] at h
                obtain ⟨e, he, rfl⟩ := h
                rcases fkD_sound hd hf hy hsz (fun q y m hq hm => (hen q y m hq hm).1) with ⟨h1, _⟩ | ⟨j, m, h1, h2, h3⟩
                · cases h1
                · injection h1 with h1; subst h1
                  refine ⟨_, ?_, okD_sound ok true (hen i e m he h2).2.1⟩
                  simp only [Instr.lookup, Sem.run_bind, run_und ht, Result.andThen_ok, hg, Sem.run_pure, hc, h3]
              · rename_i hf
                simp only [Option.map_eq_some_iff] at h
                obtain ⟨zd, hz, rfl⟩ := h
                obtain ⟨zv, hz1, hz2⟩ := zeroV_sound hz E w
                rcases fkD_sound hd hf hy hsz (fun q y m hq hm => (hen q y m hq hm).1) with ⟨_, h2⟩ | ⟨j, m, h1, _⟩
                · refine ⟨_, ?_, okD_sound ok false hz2⟩
                  simp only [Instr.lookup, Sem.run_bind, run_und ht, Result.andThen_ok, hg, Sem.run_pure, hc, h2, hz1]
                · cases h1
              · cases h
            · cases h
        · cases h
      · cases h
    · cases h
  · cases h

/-! ### Writing -/
/-- Values that are what they are in every memory. -/
def litS : PD → Option Value
  | .bool b => some (.bool b)
  | .int k n => some (.int k n)
  | .str s => some (.string ⟨⟨s⟩⟩)
  | _ => none

def litC : DV → Option Value
  | .pd p => litS p
  | _ => none

def litD : DV → Option Value
  | .pd p => litS p
  | .agg cs => (cs.mapM litC).map fun l => .agg l.toArray
  | _ => none

theorem litS_eq {S : Nat → Prop} {w : World} {p : PD} {a u : Value} (h : litS p = some a) (hp : PR S w p u) : u = a := by
  cases hp <;> simp [litS] at h <;> exact h

theorem litC_eq {E : EV} {w : World} {x : DV} {a u : Value} (h : litC x = some a) (hx : VR E w x u) : u = a := by
  unfold litC at h
  split at h
  · cases hx with
    | pd hp => exact litS_eq h hp
  · cases h

theorem litCs_eq {E : EV} {w : World} : ∀ (cs : List DV) (l : List Value) (vs : List Value), cs.mapM litC = some l → vs.length = cs.length →
    (∀ (i : Nat) (x : DV) (v : Value), cs[i]? = some x → vs[i]? = some v → VR E w x v) → vs = l
  | [], l, vs, h, hl, _ => by
    simp at h; subst h
    cases vs with
    | nil => rfl
    | cons => simp at hl
  | c :: cs, l, vs, h, hl, hv => by
    cases vs with
    | nil => simp at hl
    | cons v vs =>
      rw [List.mapM_cons] at h
      cases hc : litC c with
      | none => simp [hc] at h
      | some a =>
        cases hcs : cs.mapM litC with
        | none => simp [hc, hcs] at h
        | some l' =>
          simp [hc, hcs] at h
          subst h
          rw [litC_eq hc (hv 0 c v rfl rfl), litCs_eq cs l' vs hcs (by simpa using hl) (fun i x v hx hv' => hv (i + 1) x v hx hv')]

theorem litD_eq {E : EV} {w : World} {x : DV} {a u : Value} (h : litD x = some a) (hx : VR E w x u) : u = a := by
  unfold litD at h
  split at h
  · cases hx with
    | pd hp => exact litS_eq h hp
  · rename_i cs
    simp only [Option.map_eq_some_iff] at h
    obtain ⟨l, hl, rfl⟩ := h
    cases hx with
    | agg h1 h2 =>
      rename_i vs
      have := litCs_eq (E := E) (w := w) cs l vs.toList hl (by simpa using h1) (fun i x v hx hv => h2 i x v hx (by simpa using hv))
      rw [← this]
  · cases h

def muD (P : Program) (M : List DE) (t : TypeId) (x y v : DV) : Option (List DE) :=
  match P.underlying t with
  | some (.map kt et) =>
    match P.underlying kt with
    | some d =>
      match x with
      | .mp id =>
        match M[id]? with
        | some (.map es cl) =>
          if ckD P 8 kt y then
            match fkD P kt d y es 0 with
            | some (some i) =>
              match es[i]? with
              | some e =>
                match litD e.1, litD y with
                | some a, some b => if Instr.sameBits 10000 a b then some (M.set id (.map (es.set i (y, v, e.2.2)) cl)) else none
                | _, _ => none
              | none => none
            | some none => some (M.set id (.map (es ++ [(y, v, cl)]) (cl + 1)))
            | none => none
          else none
        | _ => none
      | _ => none
    | none => none
  | _ => none

/-- What a step comes to that hands nothing back. -/
def DidU (P : Program) (s : Sem Unit) (E : EV) (w : World) (M M' : List DE) : Prop :=
  ∀ df, ∃ E' w', s.run P w = .ok () w' ∧ HR E' M' w' ∧ XT ⟨w, E, M, df⟩ E' M' w'

theorem setObj_step {E : EV} {w : World} {M : List DE} {id : Nat} {o o' : DE} (hH : HR E M w) (hM : M[id]? = some o) (hl : o.live) (hl' : o'.live) (ob old : Obj) (hold : w.heap[E.b id]? = some old) (df : List Deferred)
    (ho : ∀ w', EE E E w w' → w'.heap[E.b id]? = some ob → OR E w' id o') :
    HR E (M.set id o') { w with heap := w.heap.setIfInBounds (E.b id) ob } ∧ XT ⟨w, E, M, df⟩ E (M.set id o') { w with heap := w.heap.setIfInBounds (E.b id) ob } ∧ EE E E w { w with heap := w.heap.setIfInBounds (E.b id) ob } := by
  have hs := heap_set (o' := ob) hold
  exact upd_step (w' := { w with heap := w.heap.setIfInBounds (E.b id) ob }) hH df hM hl hl' rfl rfl rfl (by simp) hs.2 fun hE => ho _ hE hs.1

theorem muD_sound {P : Program} {E : EV} {w : World} {M M' : List DE} {t : TypeId} {x y v : DV} {ux uy uv : Value} (h : muD P M t x y v = some M') (hx : VR E w x ux) (hy : VR E w y uy) (hv : VR E w v uv) (hH : HR E M w) :
    DidU P (Instr.mapUpdate t ux uy uv) E w M M' := by
  unfold muD at h
  split at h
  · rename_i kt et ht
    split at h
    · rename_i d hd
      split at h
      · rename_i id
        split at h
        · rename_i es cl hM
          cases hx with
          | mp ha =>
            obtain ⟨en, hh, hsz, hen⟩ := hH.objs _ _ hM
            split at h
            · rename_i hck
              have hc := ckD_sound (P := P) (E := E) (w := w) false 8 10000 (by omega) kt y uy hck hy
              have hg := gobj (P := P) hh
              split at h
              · rename_i i hf
                split at h
                · rename_i e he
                  split at h
                  · rename_i a b hla hlb
                    split at h
                    · rename_i hsb
                      injection h with h; subst h
                      intro df
                      rcases fkD_sound hd hf hy hsz (fun q y m hq hm => (hen q y m hq hm).1) with ⟨h1, _⟩ | ⟨j, m, h1, h2, h3⟩
                      · cases h1
                      · injection h1 with h1; subst h1
                        have hm := hen i e m he h2
                        have hkeep : (Instr.keyThatStays (((en[i]?).map (·.key)).getD uy) uy).run P w = .ok uy w := by
                          rw [h2]
                          simp only [Option.map_some, Option.getD_some]
                          rw [litD_eq hla hm.1, litD_eq hlb hy]
                          simp [Instr.keyThatStays, hsb]
                        have hst := setObj_step hH hM trivial (o' := .map (es.set i (y, v, e.2.2)) cl) trivial (.map (en.modify i fun e => { e with key := uy, val := uv }) cl) _ hh df (fun w' hE hb => ⟨_, hb, by simp [hsz], fun q z mm hz hmm => by
                          rw [Array.getElem?_modify] at hmm
                          by_cases hq : i = q
                          · subst hq
                            rw [if_pos rfl, h2] at hmm
                            simp only [Option.map_some, Option.some.injEq] at hmm
                            have hil : i < es.length := (List.getElem?_eq_some_iff.1 he).1
                            rw [List.getElem?_set, if_pos rfl, if_pos hil] at hz
                            injection hz with hz; subst hz hmm
                            exact ⟨hy.mono hE, hv.mono hE, hm.2.2⟩
                          · rw [if_neg hq] at hmm
                            rw [List.getElem?_set, if_neg hq] at hz
                            have := hen q z mm hz hmm
                            exact ⟨this.1.mono hE, this.2.1.mono hE, this.2.2⟩⟩)
                        refine ⟨E, _, ?_, hst.1, hst.2.1⟩
                        simp only [Instr.mapUpdate, Sem.run_bind, run_und ht, Result.andThen_ok, hg, hc, h3, hkeep, sobj _ hh]
                    · cases h
                  · cases h
                · cases h
              · rename_i hf
                injection h with h; subst h
                intro df
                rcases fkD_sound hd hf hy hsz (fun q y m hq hm => (hen q y m hq hm).1) with ⟨_, h2⟩ | ⟨j, m, h1, _⟩
                · have hst := setObj_step hH hM trivial (o' := .map (es ++ [(y, v, cl)]) (cl + 1)) trivial (.map (en.push { key := uy, val := uv, born := cl }) (cl + 1)) _ hh df (fun w' hE hb => ⟨_, hb, by simp [hsz], fun q z mm hz hmm => by
                    rw [Array.getElem?_push] at hmm
                    rw [List.getElem?_append] at hz
                    by_cases hq : q = en.size
                    · rw [if_pos hq] at hmm
                      rw [if_neg (by omega), show q - es.length = 0 by omega] at hz
                      simp only [List.getElem?_cons_zero, Option.some.injEq] at hz hmm
                      subst hz hmm
                      exact ⟨hy.mono hE, hv.mono hE, rfl⟩
                    · rw [if_neg hq] at hmm
                      have hql : q < en.size := (Array.getElem?_eq_some_iff.1 hmm).1
                      rw [if_pos (by omega)] at hz
                      have := hen q z mm hz hmm
                      exact ⟨this.1.mono hE, this.2.1.mono hE, this.2.2⟩⟩)
                  refine ⟨E, _, ?_, hst.1, hst.2.1⟩
                  simp only [Instr.mapUpdate, Sem.run_bind, run_und ht, Result.andThen_ok, hg, hc, h2, sobj _ hh]
                · cases h1
              · cases h
            · cases h
        · cases h
      · cases h
    · cases h
  · cases h

/-! ### Ranges -/
def raD (P : Program) (M : List DE) (t : TypeId) (x : DV) : Option (DV × List DE) :=
  match P.underlying t with
  | some (.map _ _) =>
    match x with
    | .nm => some (.ptr M.length 0, M ++ [.it none 0 [] 0])
    | .mp id => match M[id]? with | some (.map _ cl) => some (.ptr M.length 0, M ++ [.it (some id) cl [] cl]) | _ => none
    | _ => none
  | _ => none

theorem raD_sound {P : Program} {E : EV} {w : World} {M M' : List DE} {t : TypeId} {x v : DV} {u : Value} (h : raD P M t x = some (v, M')) (hx : VR E w x u) (hH : HR E M w) : Did P (Instr.range t u) E w M M' v := by
  unfold raD at h
  split at h
  · rename_i k e ht
    have fin : ∀ (m : Option Nat) (cl : Nat), (∀ j, m = some j → E.al j) → (Instr.range t u).run P w = .ok (.pointer (some ⟨w.heap.size, 0, none⟩)) (w.alloc (.mapIter (m.map E.b) cl #[] cl)) →
        Did P (Instr.range t u) E w M (M ++ [.it m cl [] cl]) (.ptr M.length 0) := fun m cl hm hr df => by
      have hst := push_step hH 0 0 (o := .it m cl [] cl) (.mapIter (m.map E.b) cl #[] cl) df trivial fun hE => ⟨by
        rw [add_b, alloc_new]
        cases m with
        | none => rfl
        | some j => simp only [Option.map_some, hE.b _ (hm j rfl)], fun j hj => hE.al _ (hm j hj)⟩
      refine ⟨_, _, _, hr, hst.1, hst.2.1, ?_⟩
      have := VR.ptr (w := w.alloc (.mapIter (m.map E.b) cl #[] cl)) (off := 0) (add_al E M.length w.heap.size 0 0)
      rw [add_b] at this
      exact this
    split at h
    · injection h with h; injection h with h1 h2; subst h1 h2
      cases hx
      exact fin none 0 (fun j hj => by cases hj) (run_range_nilMap w t k e ht)
    · rename_i id
      split at h
      · rename_i es cl hM
        injection h with h; injection h with h1 h2; subst h1 h2
        cases hx with
        | mp ha =>
          obtain ⟨en, hh, _⟩ := hH.objs _ _ hM
          exact fin (some id) cl (fun j hj => by injection hj with hj; exact hj ▸ ha) (run_range_map w t k e _ en cl ht hh)
      · cases h
    · cases h
  · cases h

/-- One step over a map of at most one entry. -/
def nxD (M : List DE) (x : DV) : Option (DV × List DE) :=
  match x with
  | .ptr r 0 =>
    match M[r]? with
    | some (.it none _ _ _) => some (.tup [.pd (.bool false)], M)
    | some (.it (some m) since seen last) =>
      match M[m]? with
      | some (.map [] _) => some (.tup [.pd (.bool false)], M)
      | some (.map [e] cl) =>
        if seen = [] then
          if e.2.2 < since then some (.tup [.pd (.bool true), e.1, e.2.1], M.set r (.it (some m) since [e.2.2] cl)) else none
        else if seen.contains e.2.2 ∧ e.2.2 < last then some (.tup [.pd (.bool false)], M) else none
      | _ => none
    | _ => none
  | _ => none

theorem run_next_over {P : Program} {w : World} {r bm since last clock : Nat} {seen : Array Nat} {es : Array MapEntry} (ty : TypeId) (hr : w.heap[r]? = some (.mapIter (some bm) since seen last)) (hb : w.heap[bm]? = some (.map es clock))
    (ht : (!seen.isEmpty && !es.isEmpty && es.all (fun x => decide (x.born ≥ last))) = false) (hl : es.filter (fun e => !seen.contains e.born) = #[]) :
    (Instr.next (.pointer (some ⟨r, 0, none⟩)) false ty).run P w = .ok (.tuple #[.bool false]) w := by
  have e1 : ∀ p : MapEntry → Bool, (#[] : Array MapEntry).filter p = #[] := fun p => rfl
  simp only [Instr.next, Sem.run_bind, gobj hr, gobj hb, Result.andThen_ok, ht, Bool.false_eq_true, if_false, hl, e1]
  have hf : (Question.mapNext 1).forced = true := rfl
  simp [hf]

theorem run_next_one {P : Program} {w : World} {r bm since last clock : Nat} {seen : Array Nat} {es : Array MapEntry} {e : MapEntry} (ty : TypeId) (hr : w.heap[r]? = some (.mapIter (some bm) since seen last)) (hb : w.heap[bm]? = some (.map es clock))
    (ht : (!seen.isEmpty && !es.isEmpty && es.all (fun x => decide (x.born ≥ last))) = false) (hl : es.filter (fun e => !seen.contains e.born) = #[e]) (he : e.born < since) :
    (Instr.next (.pointer (some ⟨r, 0, none⟩)) false ty).run P w = .ok (.tuple #[.bool true, e.key, e.val]) { w with heap := w.heap.setIfInBounds r (.mapIter (some bm) since (seen.push e.born) clock) } := by
  have e1 : (#[e] : Array MapEntry).filter (fun x => decide (x.born < since)) = #[e] := Array.filter_eq_self.2 (fun x hx => by simp at hx; subst hx; simpa using he)
  have e2 : (#[e] : Array MapEntry).filter (fun x => decide (x.born ≥ since)) = #[] := by
    rw [Array.filter_eq_empty_iff]
    intro x hx
    simp at hx; subst hx
    simp; omega
  simp only [Instr.next, Sem.run_bind, gobj hr, gobj hb, Result.andThen_ok, ht, Bool.false_eq_true, if_false, hl, e1, e2]
  have hf : (Question.mapNext 1).forced = true := rfl
  have hs := sobj (P := P) (.mapIter (some bm) since (seen.push e.born) clock) hr
  simp [hf, hs]

theorem nxD_sound {P : Program} {E : EV} {w : World} {M M' : List DE} {ty : TypeId} {x v : DV} {u : Value} (h : nxD M x = some (v, M')) (hx : VR E w x u) (hH : HR E M w) : Did P (Instr.next u false ty) E w M M' v := by
  have hover : VR E w (.tup [.pd (.bool false)]) (.tuple #[.bool false]) := .tup rfl fun i x y h1 h2 => by
    cases i with
    | zero => simp at h1 h2; subst h1 h2; exact .pd (.bool _)
    | succ i => simp at h1
  unfold nxD at h
  split at h
  · rename_i r
    cases hx with
    | ptr ha =>
      split at h
      · rename_i since seen last hM
        injection h with h; injection h with h1 h2; subst h1 h2
        obtain ⟨hr, _⟩ := hH.objs _ _ hM
        refine fun df => ⟨E, w, _, ?_, hH, XT.refl _ _ _ _, hover⟩
        simp only [Instr.next, Sem.run_bind, gobj hr, Result.andThen_ok, Option.map_none]
        rfl
      · rename_i m since seen last hM
        obtain ⟨hr, hrm⟩ := hH.objs _ _ hM
        have hg := gobj (P := P) hr
        split at h
        · rename_i cl hMm
          injection h with h; injection h with h1 h2; subst h1 h2
          obtain ⟨en, hh, hsz, _⟩ := hH.objs _ _ hMm
          have hen : en = #[] := Array.eq_empty_of_size_eq_zero (by simpa using hsz)
          subst hen
          refine fun df => ⟨E, w, _, ?_, hH, XT.refl _ _ _ _, hover⟩
          exact run_next_over ty hr hh (by simp) rfl
        · rename_i e cl hMm
          obtain ⟨en, hh, hsz, hen⟩ := hH.objs _ _ hMm
          obtain ⟨mm, rfl⟩ : ∃ mm, en = #[mm] := by
            have h1 : en.size = 1 := by simpa using hsz
            exact Array.size_eq_one_iff.1 h1
          have hm := hen 0 e mm rfl rfl
          split at h
          · rename_i hs
            subst hs
            split at h
            · rename_i hlt
              injection h with h; injection h with h1 h2; subst h1 h2
              intro df
              have hst := setObj_step hH hM trivial (o' := .it (some m) since [e.2.2] cl) trivial (.mapIter (some (E.b m)) since #[e.2.2] cl) _ hr df (fun w' hE hb => ⟨by rw [hb]; rfl, fun j hj => hrm j hj⟩)
              refine ⟨E, _, .tuple #[.bool true, mm.key, mm.val], ?_, hst.1, hst.2.1, .tup rfl fun i x y h1 h2 => ?_⟩
              · have hfl : (#[mm] : Array MapEntry).filter (fun e => !(#[] : Array Nat).contains e.born) = #[mm] := Array.filter_eq_self.2 (fun x _ => by simp)
                have := run_next_one (P := P) ty hr hh (by simp) hfl (by rw [hm.2.2]; exact hlt)
                rw [this, hm.2.2]; rfl
              · cases i with
                | zero => simp at h1 h2; subst h1 h2; exact .pd (.bool _)
                | succ i =>
                  cases i with
                  | zero => simp at h1 h2; subst h1 h2; exact hm.1.mono hst.2.2
                  | succ i =>
                    cases i with
                    | zero => simp at h1 h2; subst h1 h2; exact hm.2.1.mono hst.2.2
                    | succ i => simp at h1
            · cases h
          · split at h
            · rename_i hs hc
              injection h with h; injection h with h1 h2; subst h1 h2
              refine fun df => ⟨E, w, _, ?_, hH, XT.refl _ _ _ _, hover⟩
              have hb1 : ¬ (mm.born ≥ last) := by rw [hm.2.2]; omega
              have hb2 : seen.toArray.contains mm.born = true := by rw [hm.2.2]; simpa using hc.1
              refine run_next_over ty hr hh ?_ ?_
              · have : (#[mm] : Array MapEntry).all (fun x => decide (x.born ≥ last)) = false := by simp; omega
                rw [this]; simp
              · rw [Array.filter_eq_empty_iff]
                intro x hx
                simp at hx; subst hx
                simpa using hb2
            · cases h
        · cases h
      · cases h
  · cases h

/-- The entry that the last step handed out. -/
def enD (M : List DE) (x : DV) : Option DV :=
  match x with
  | .ptr r 0 =>
    match M[r]? with
    | some (.it (some m) _ seen last) =>
      match seen.getLast? with
      | some stamp =>
        match M[m]? with
        | some (.map es cl) => if cl = last then (es.find? fun e => e.2.2 == stamp).map fun e => .tup [e.1, e.2.1] else none
        | _ => none
      | none => none
    | _ => none
  | _ => none

theorem find_born_D {E : EV} {w : World} {stamp : Nat} {e : DV × DV × Nat} : ∀ (es : List (DV × DV × Nat)) (en : List MapEntry), en.length = es.length →
    (∀ (i : Nat) (x : DV × DV × Nat) (m : MapEntry), es[i]? = some x → en[i]? = some m → VR E w x.1 m.key ∧ VR E w x.2.1 m.val ∧ m.born = x.2.2) →
    es.find? (fun e => e.2.2 == stamp) = some e → ∃ m, en.find? (fun e => e.born == stamp) = some m ∧ VR E w e.1 m.key ∧ VR E w e.2.1 m.val
  | [], _, _, _, h => by simp at h
  | x :: es, [], hl, _, _ => by simp at hl
  | x :: es, m :: en, hl, hx, h => by
    have h0 := hx 0 x m rfl rfl
    simp only [List.find?_cons] at h ⊢
    rw [h0.2.2]
    split at h
    · rename_i hc
      injection h with h; subst h
      exact ⟨m, rfl, h0.1, h0.2.1⟩
    · exact find_born_D es en (by simpa using hl) (fun i y n h1 h2 => hx (i + 1) y n (by simpa using h1) (by simpa using h2)) h

theorem enD_sound {P : Program} {E : EV} {w : World} {M : List DE} {x v : DV} {u : Value} (h : enD M x = some v) (hx : VR E w x u) (hH : HR E M w) : ∃ r, (Instr.entry u).run P w = .ok r w ∧ VR E w v r := by
  unfold enD at h
  split at h
  · rename_i r
    cases hx with
    | ptr ha =>
      split at h
      · rename_i m since seen last hM
        split at h
        · rename_i stamp hst
          split at h
          · rename_i es cl hMm
            split at h
            · rename_i hcl
              subst hcl
              simp only [Option.map_eq_some_iff] at h
              obtain ⟨e, he, rfl⟩ := h
              obtain ⟨hr, _⟩ := hH.objs _ _ hM
              obtain ⟨en, hh, hsz, hen⟩ := hH.objs _ _ hMm
              obtain ⟨mm, h1, h2, h3⟩ := find_born_D (E := E) (w := w) es en.toList (by simpa using hsz) (fun i x m a b => hen i x m a (by simpa using b)) he
              have hb : seen.toArray.back? = some stamp := by simpa using hst
              have hf : en.find? (fun e => e.born == stamp) = some mm := by rw [← Array.find?_toList]; exact h1
              refine ⟨.tuple #[mm.key, mm.val], ?_, .tup rfl fun i x y h4 h5 => ?_⟩
              · simp only [Instr.entry, Sem.run_bind, gobj hr, gobj hh, Result.andThen_ok, hb, Option.map_some, bne_self_eq_false, Bool.false_eq_true, if_false, hf, Sem.run_pure]
              · cases i with
                | zero => simp at h4 h5; subst h4 h5; exact h2
                | succ i =>
                  cases i with
                  | zero => simp at h4 h5; subst h4 h5; exact h3
                  | succ i => simp at h4
            · cases h
          · cases h
        · cases h
      · cases h
  · cases h

end Go.Proofs.YtkcelehlilppcaaGreat
