/- The other operations that only compute or read, and all of them together. No condition. -/
import Derived.Test.YtkcelehlilppcaaGreatD4
set_option linter.unusedVariables false
set_option linter.unusedSimpArgs false
namespace Go.Proofs.YtkcelehlilppcaaGreat
open Go.RowKit

def unD (op : UnOp) (x : DV) : Option DV :=
  match op, x with
  | .not, .pd p => gd p.isB (.pd (.bool (!p.b)))
  | .neg, .pd p => gd p.isI (.pd (.int p.k (p.k.wrap (0 - p.i))))
  | _, _ => none

theorem unD_sound {P : Program} {E : EV} {w : World} {op : UnOp} {x v : DV} {u : Value} (h : unD op x = some v) (hx : VR E w x u) :
    ∃ r, (Op.unary op u).run P w = .ok r w ∧ VR E w v r := by
  unfold unD at h
  split at h
  · obtain ⟨hc, h2⟩ := gd_some h; subst h2
    cases hx with
    | pd hp => cases hp <;> simp only [PD.isB, Bool.false_eq_true] at hc; exact ⟨_, by simp [Op.unary]; rfl, .pd (.bool _)⟩
  · obtain ⟨hc, h2⟩ := gd_some h; subst h2
    cases hx with
    | pd hp => cases hp <;> simp only [PD.isI, Bool.false_eq_true] at hc; rename_i k n; exact ⟨.int k (k.wrap (0 - n)), by simp [Op.unary, Op.intArith], .pd (.int _ _)⟩
  · cases h

def coD (P : Program) (s d : TypeId) (x : DV) : Option DV :=
  match P.underlying s, P.underlying d, x with
  | some (.int _), some (.int k), .pd p => gd p.isI (.pd (.int k (k.wrap p.i)))
  | some .string, some .string, .pd p => gd p.isT (.pd p)
  | _, _, _ => none

theorem coD_sound {P : Program} {E : EV} {w : World} {s d : TypeId} {x v : DV} {u : Value} (h : coD P s d x = some v) (hx : VR E w x u) :
    ∃ r, (convert s d u).run P w = .ok r w ∧ VR E w v r := by
  unfold coD at h
  split at h
  · rename_i hs hd
    obtain ⟨hc, h2⟩ := gd_some h; subst h2
    cases hx with
    | pd hp => cases hp <;> simp only [PD.isI, Bool.false_eq_true] at hc; exact ⟨_, by simp [convert, Sem.run_bind, run_und hs, run_und hd, Conv.intToInt]; rfl, .pd (.int _ _)⟩
  · rename_i hs hd
    obtain ⟨hc, h2⟩ := gd_some h; subst h2
    cases hx with
    | pd hp => cases hp <;> simp only [PD.isT, Bool.false_eq_true] at hc; exact ⟨_, by simp [convert, Sem.run_bind, run_und hs, run_und hd], .pd (.str _)⟩
  · cases h

def ncD (x : DV) : Option DV :=
  match x with
  | .ptr a b => some (.ptr a b)
  | .ra a b c d => some (.ra a b c d)
  | .sa cs => some (.sa cs)
  | .fn (.func f) a b => some (.fn (.func f) a b)
  | _ => none

/-! ### A struct that is built -/
def cellsD : DV → Option (List DV)
  | .agg cs => some cs
  | .any | .un | .tup _ => none
  | v => some [v]

theorem cellsD_sound {E : EV} {w : World} {x : DV} {u : Value} {cs : List DV} (h : cellsD x = some cs) (hx : VR E w x u) : LR E w cs u.cells := by
  have one : ∀ u : Value, VR E w x u → u.cells = #[u] → cellsD x = some [x] → LR E w cs u.cells := fun u hx hu hxx => by
    rw [hxx] at h; injection h with h; subst h
    rw [hu]
    refine ⟨rfl, fun i y v h1 h2 => ?_⟩
    cases i with
    | zero => simp at h1 h2; subst h1 h2; exact hx
    | succ i => simp at h1
  cases hx with
  | any v => simp [cellsD] at h
  | un => simp [cellsD] at h
  | pd hp => exact one _ (.pd hp) (by cases hp <;> rfl) rfl
  | sa u hu => exact one _ (.sa u hu) rfl rfl
  | np => exact one _ .np rfl rfl
  | ptr ha => exact one _ (.ptr ha) rfl rfl
  | ra ha => exact one _ (.ra ha) rfl rfl
  | own ha => exact one _ (.own ha) rfl rfl
  | yld ha => exact one _ (.yld ha) rfl rfl
  | em => exact one _ .em rfl rfl
  | mp ha => exact one _ (.mp ha) rfl rfl
  | nm => exact one _ .nm rfl rfl
  | fn h1 h2 h3 h4 => exact one _ (.fn h1 h2 h3 h4) rfl rfl
  | nf => exact one _ .nf rfl rfl
  | ifc h' => exact one _ (.ifc h') rfl rfl
  | ni => exact one _ .ni rfl rfl
  | agg h1 h2 => simp only [cellsD, Option.some.injEq] at h; subst h; exact ⟨h1, h2⟩
  | tup h1 h2 => simp [cellsD] at h

def setAll (cs : List DV) (off : Nat) (vs : List DV) : List DV := cs.take off ++ (vs ++ cs.drop (off + vs.length))

theorem setAll_length (cs : List DV) (off : Nat) (vs : List DV) (h : off + vs.length ≤ cs.length) : (setAll cs off vs).length = cs.length := by
  simp [setAll]; omega

theorem setAll_get (cs : List DV) (off : Nat) (vs : List DV) (h : off + vs.length ≤ cs.length) (i : Nat) :
    (setAll cs off vs)[i]? = if i < off then cs[i]? else if i < off + vs.length then vs[i - off]? else cs[i]? := by
  unfold setAll
  have hl : (cs.take off).length = off := by simp; omega
  by_cases h1 : i < off
  · rw [if_pos h1, List.getElem?_append_left (by omega), List.getElem?_take, if_pos h1]
  · rw [if_neg h1, List.getElem?_append_right (by omega), hl]
    by_cases h2 : i < off + vs.length
    · rw [if_pos h2, List.getElem?_append_left (by omega)]
    · rw [if_neg h2, List.getElem?_append_right (by omega), List.getElem?_drop]
      congr 1; omega

theorem foldl_set (off : Nat) : ∀ (l : List Value) (j : Nat) (arr : Array Value), off + j + l.length ≤ arr.size →
    ((l.zipIdx j).foldl (fun cs (x : Value × Nat) => cs.setIfInBounds (off + x.2) x.1) arr).size = arr.size ∧
    ∀ i, ((l.zipIdx j).foldl (fun cs (x : Value × Nat) => cs.setIfInBounds (off + x.2) x.1) arr)[i]? = if off + j ≤ i ∧ i < off + j + l.length then l[i - (off + j)]? else arr[i]? := by
  intro l
  induction l with
  | nil => intro j arr h; exact ⟨rfl, fun i => by simp; omega⟩
  | cons x l ih =>
    intro j arr h
    simp only [List.zipIdx_cons, List.foldl_cons, List.length_cons] at h ⊢
    have := ih (j + 1) (arr.setIfInBounds (off + j) x) (by simp; omega)
    refine ⟨by rw [this.1]; simp, fun i => ?_⟩
    rw [this.2 i, Array.getElem?_setIfInBounds]
    by_cases h1 : off + (j + 1) ≤ i ∧ i < off + (j + 1) + l.length
    · rw [if_pos h1, if_pos (by omega), show i - (off + j) = (i - (off + (j + 1))) + 1 by omega, List.getElem?_cons_succ]
    · rw [if_neg h1]
      by_cases h2 : off + j = i
      · subst h2
        rw [if_pos rfl, if_pos (by omega), if_pos (by omega), Nat.sub_self]; rfl
      · rw [if_neg h2, if_neg (by omega)]

def fillD (P : Program) (fs : Array Field) (cs : List DV) : List (Nat × DV) → Option (List DV)
  | [] => some cs
  | (i, v) :: rest =>
    match fs[i]?, cellsD v with
    | some f, some vs => if vs.length = P.cellsOf f.type ∧ f.offset + vs.length ≤ cs.length then fillD P fs (setAll cs f.offset vs) rest else none
    | _, _ => none

def allInfo (P : Program) (fs : Array Field) : Bool := fs.toList.all fun f => (P.info? f.type).isSome

def buD (P : Program) (t : TypeId) (parts : List (Nat × DV)) : Option DV :=
  match P.underlying t, P.info? t with
  | some (.struct fs), some i =>
    match i.zero with
    | some z => match fillD P fs (z.cells.toList.map cvc) parts with | some cs => gd (allInfo P fs = true) (.agg cs) | none => none
    | none => none
  | _, _ => none

theorem set_LR {E : EV} {w : World} {cs vs : List DV} {as us : Array Value} (h : LR E w cs as) (hv : LR E w vs us) (off : Nat) (ho : off + vs.length ≤ cs.length) :
    LR E w (setAll cs off vs) (us.zipIdx.foldl (fun cs (c, j) => cs.setIfInBounds (off + j) c) as) := by
  have hf := foldl_set off us.toList 0 as (by simp [h.1, hv.1]; exact ho)
  have he : us.zipIdx.foldl (fun cs (c, j) => cs.setIfInBounds (off + j) c) as = (us.toList.zipIdx 0).foldl (fun cs (x : Value × Nat) => cs.setIfInBounds (off + x.2) x.1) as := by
    rw [← Array.foldl_toList, Array.toList_zipIdx]
  rw [he]
  refine ⟨by rw [hf.1, setAll_length _ _ _ ho, h.1], fun i x v h1 h2 => ?_⟩
  rw [setAll_get _ _ _ ho] at h1
  rw [hf.2 i] at h2
  simp only [Nat.add_zero, Array.length_toList, hv.1] at h2
  by_cases ha : i < off
  · rw [if_pos ha] at h1; rw [if_neg (by omega)] at h2; exact h.2 _ _ _ h1 h2
  · rw [if_neg ha] at h1
    by_cases hb : i < off + vs.length
    · rw [if_pos hb] at h1; rw [if_pos (by omega)] at h2
      exact hv.2 _ _ _ h1 (by simpa using h2)
    · rw [if_neg hb] at h1; rw [if_neg (by omega)] at h2; exact h.2 _ _ _ h1 h2

theorem fillD_sound {P : Program} {E : EV} {w : World} {fs : Array Field} : ∀ (parts : List (Nat × DV)) (ps : List (Nat × Value)) (cs cs' : List DV) (as : Array Value),
    fillD P fs cs parts = some cs' → LR E w cs as → ps.length = parts.length →
    (∀ (q : Nat) (x : Nat × DV) (y : Nat × Value), parts[q]? = some x → ps[q]? = some y → y.1 = x.1 ∧ VR E w x.2 y.2) →
    ∃ as', Instr.fill (fun i => (fs[i]?).map fun f => (f.offset, P.cellsOf f.type)) as ps = some as' ∧ LR E w cs' as' := by
  intro parts
  induction parts with
  | nil =>
    intro ps cs cs' as h hl hlen hr
    cases ps with
    | nil => simp only [fillD, Option.some.injEq] at h; subst h; exact ⟨as, rfl, hl⟩
    | cons => simp at hlen
  | cons x parts ih =>
    intro ps cs cs' as h hl hlen hr
    cases ps with
    | nil => simp at hlen
    | cons y ps =>
      obtain ⟨i, v⟩ := x
      obtain ⟨i', u⟩ := y
      have h0 := hr 0 (i, v) (i', u) rfl rfl
      simp only at h0
      obtain ⟨rfl, hv⟩ := h0
      unfold fillD at h
      split at h
      · rename_i f vs hf hvs
        split at h
        · rename_i hcond
          have hc := cellsD_sound hvs hv
          have hset := set_LR hl hc f.offset hcond.2
          obtain ⟨as', h1, h2⟩ := ih ps _ _ _ h hset (by simpa using hlen) (fun q x y hq hy => hr (q + 1) x y hq hy)
          refine ⟨as', ?_, h2⟩
          unfold Instr.fill
          simp only [hf, Option.map_some]
          rw [if_neg (by rw [hc.1, hl.1, hcond.1]; have := hcond.2; rw [hcond.1] at this; simp; omega)]
          exact h1
        · cases h
      · cases h

theorem run_places {P : Program} (w : World) (fs : Array Field) (h : allInfo P fs = true) :
    (fs.mapM fun f => do pure (f.offset, ← sizeOf f.type) : Sem (Array (Nat × Nat))).run P w = .ok (fs.map fun f => (f.offset, P.cellsOf f.type)) w := by
  rw [Array.mapM_eq_mapM_toList]
  simp only [allInfo, List.all_eq_true] at h
  rw [Sem.run_map]
  have key : ∀ l : List Field, (∀ f ∈ l, (P.info? f.type).isSome = true) → (l.mapM fun f => do pure (f.offset, ← sizeOf f.type) : Sem (List (Nat × Nat))).run P w = .ok (l.map fun f => (f.offset, P.cellsOf f.type)) w := by
    intro l
    induction l with
    | nil => intro _; rfl
    | cons f l ih =>
      intro hl
      obtain ⟨i, hi⟩ := Option.isSome_iff_exists.1 (hl f (by simp))
      have hsz : (sizeOf f.type).run P w = .ok (P.cellsOf f.type) w := by rw [run_size hi]; simp [Program.cellsOf, hi]
      rw [List.mapM_cons]
      simp only [Sem.run_bind, hsz, Result.andThen_ok, Sem.run_pure, ih (fun g hg => hl g (by simp [hg])), List.map_cons]
  rw [key _ h]
  simp only [Result.andThen_ok]
  congr 1
  apply Array.toList_inj.1
  simp

theorem buD_sound {P : Program} {E : EV} {w : World} {t : TypeId} {parts : List (Nat × DV)} {v : DV} (h : buD P t parts = some v)
    (ps : Array (Nat × Value)) (hlen : ps.size = parts.length) (hr : ∀ (q : Nat) (x : Nat × DV) (y : Nat × Value), parts[q]? = some x → ps[q]? = some y → y.1 = x.1 ∧ VR E w x.2 y.2) :
    ∃ r, (Instr.build t ps).run P w = .ok r w ∧ VR E w v r := by
  unfold buD at h
  split at h
  · rename_i fs i ht hi
    split at h
    · rename_i z hz
      split at h
      · rename_i cs hf
        obtain ⟨hc, h2⟩ := gd_some h; subst h2
        have hzl : LR E w (z.cells.toList.map cvc) z.cells := ⟨by simp, fun q x u h1 h2 => by
          simp only [List.getElem?_map, Array.getElem?_toList, h2, Option.map_some, Option.some.injEq] at h1
          subst h1
          exact cvc_sound E w u⟩
        obtain ⟨as', ha, hl⟩ := fillD_sound parts ps.toList _ _ _ hf hzl (by simpa using hlen) (fun q x y hq hy => hr q x y hq (by simpa using hy))
        refine ⟨.agg as', ?_, .agg hl.1 hl.2⟩
        have hzr : (zeroValue t).run P w = .ok z w := by simp [zeroValue, typeInfo, hi, hz]
        simp only [Instr.build, Sem.run_bind, hzr, Result.andThen_ok, run_und ht, run_places w fs hc]
        have hpl : (fun (i : Nat) => (fs.map fun (f : Field) => (f.offset, P.cellsOf f.type))[i]?) = fun (i : Nat) => (fs[i]?).map fun (f : Field) => (f.offset, P.cellsOf f.type) := by
          funext i; simp
        simp only [hpl, ha]
        rfl
      · cases h
    · cases h
  · cases h

/-! ### Lengths, and parts of slices -/
def lnD (P : Program) (M : List DE) (t : TypeId) (x : DV) : Option DV :=
  match P.underlying t with
  | some .string => match x with | .pd p => gd p.isT (.pd (.int .i64 p.s.length)) | _ => none
  | some (.slice _) =>
    match x with
    | .pd p => gd p.isL (.pd (.int .i64 p.rs.length))
    | .own id => match M[id]? with | some (.row _ _ rs) => some (.pd (.int .i64 rs.length)) | _ => none
    | .em => some (.pd (.int .i64 0))
    | _ => none
  | some (.map _ _) =>
    match x with
    | .nm => some (.pd (.int .i64 0))
    | .mp id => match M[id]? with | some (.map es _) => some (.pd (.int .i64 es.length)) | _ => none
    | _ => none
  | _ => none

theorem lnD_sound {P : Program} {E : EV} {w : World} {M : List DE} {t ty : TypeId} {x v : DV} {u : Value} (h : lnD P M t x = some v) (hx : VR E w x u) (hH : HR E M w) :
    ∃ r, (Builtin.len_ #[t] ty #[u]).run P w = .ok r w ∧ VR E w v r := by
  unfold lnD at h
  split at h
  · rename_i ht
    split at h
    · obtain ⟨hc, h2⟩ := gd_some h; subst h2
      cases hx with
      | pd hp =>
        cases hp <;> simp only [PD.isT, Bool.false_eq_true] at hc
        rename_i s
        refine ⟨.int .i64 (s.length : Int), ?_, .pd (.int _ _)⟩
        simp [Builtin.len_, Sem.run_bind, run_und ht, goInt]; rfl
    · cases h
  · rename_i e ht
    split at h
    · obtain ⟨hc, h2⟩ := gd_some h; subst h2
      cases hx with
      | pd hp =>
        cases hp <;> simp only [PD.isL, Bool.false_eq_true] at hc
        · exact ⟨.int .i64 0, by simp [Builtin.len_, Sem.run_bind, run_und ht, goInt], .pd (.int _ _)⟩
        · exact ⟨_, by simp [Builtin.len_, Sem.run_bind, run_und ht, goInt]; rfl, .pd (.int _ _)⟩
    · split at h
      · rename_i hM
        injection h with h2; subst h2
        cases hx with
        | own ha =>
          have hn := (hH.objs _ _ hM).1
          refine ⟨_, by simp [Builtin.len_, Sem.run_bind, run_und ht, goInt]; rfl, ?_⟩
          rw [hn]; exact .pd (.int _ _)
      · cases h
    · injection h with h2; subst h2
      cases hx
      exact ⟨.int .i64 0, by simp [Builtin.len_, Sem.run_bind, run_und ht, goInt], .pd (.int _ _)⟩
    · cases h
  · rename_i k e ht
    split at h
    · injection h with h2; subst h2
      cases hx
      exact ⟨.int .i64 0, by simp [Builtin.len_, Sem.run_bind, run_und ht, goInt], .pd (.int _ _)⟩
    · split at h
      · rename_i hM
        injection h with h2; subst h2
        cases hx with
        | mp ha =>
          obtain ⟨en, hh, hsz, _⟩ := hH.objs _ _ hM
          refine ⟨.int .i64 (en.size : Int), ?_, ?_⟩
          · simp [Builtin.len_, Sem.run_bind, run_und ht, goInt, getObj, Sem.run, hh]
          · rw [hsz]; exact .pd (.int _ _)
      · cases h
    · cases h
  · cases h

def PD.cut (l h : Nat) : PD → PD
  | .sl k rs => .sl k ((rs.drop l).take (h - l))
  | p => p

def oPD (d : PD) : Option DV → Option PD
  | none => some d
  | some (.pd q) => some q
  | _ => none

def slD (P : Program) (t : TypeId) (x : DV) (lo hi : Option DV) : Option DV :=
  match x with
  | .pd p =>
    match P.underlying t with
    | some .string =>
      match oPD (.int .i64 0) lo, oPD (.int .i64 p.s.length) hi with
      | some l, some h => gd (p.isT ∧ l.isI ∧ h.isI ∧ 0 ≤ l.i ∧ l.i ≤ h.i ∧ h.i ≤ p.s.length) (.pd (.str ((p.s.drop l.i.toNat).take (h.i.toNat - l.i.toNat))))
      | _, _ => none
    | some (.slice e) =>
      match P.info? e, oPD (.int .i64 0) lo, oPD (.int .i64 p.rs.length) hi with
      | some i, some l, some h => gd (p.isS i.size ∧ l.isI ∧ h.isI ∧ 0 ≤ l.i ∧ l.i ≤ h.i ∧ h.i ≤ p.rs.length) (.pd (p.cut l.i.toNat h.i.toNat))
      | _, _, _ => none
    | _ => none
  | _ => none

end Go.Proofs.YtkcelehlilppcaaGreat
