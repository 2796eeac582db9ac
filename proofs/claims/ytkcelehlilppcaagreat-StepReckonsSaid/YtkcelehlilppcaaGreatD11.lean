/- Operations that lay new objects. No condition. -/
import Derived.Test.YtkcelehlilppcaaGreatD10
import Derived.RangeFuncRecord
set_option linter.unusedVariables false
set_option linter.unusedSimpArgs false
namespace Go.Proofs.YtkcelehlilppcaaGreat
open Go.RowKit

theorem HR.ext {E : EV} {M : List DE} {w : World} (hH : HR E M w) : HR E (M ++ [.free]) w := by
  have hg : ∀ (i : Nat) (o : DE), (M ++ [DE.free])[i]? = some o → o.live → M[i]? = some o := fun i o h hl => by
    rw [List.getElem?_append] at h
    split at h
    · exact h
    · cases hi : i - M.length with
      | zero => rw [hi] at h; simp at h; subst h; exact hl.elim
      | succ q => rw [hi] at h; simp at h
  refine ⟨fun i o h => ?_, fun i o h hl => hH.lt i o (hg i o h hl) hl, fun i j o o' h h' hl hl' he => hH.inj i j o o' (hg i o h hl) (hg j o' h' hl') hl hl' he, fun i hi => ?_, fun i o h hl => hH.la i o (hg i o h hl) hl, hH.slt⟩
  · by_cases hl : o.live
    · exact hH.objs i o (hg i o h hl)
    · cases o <;> first | trivial | exact absurd trivial hl
  · obtain ⟨o, ho, hf⟩ := hH.al i hi
    exact ⟨o, by rw [List.getElem?_append_left (lt_of_getElem? ho)]; exact ho, hf⟩

theorem XT.unext {E E' : EV} {M M' : List DE} {w w' : World} {df : List Deferred} (h : XT ⟨w, E, M ++ [.free], df⟩ E' M' w') : XT ⟨w, E, M, df⟩ E' M' w' := by
  have ho : ∀ b, ownedB E (M ++ [DE.free]) b → ownedB E M b := fun b ⟨i, o, hM, hl, hb⟩ => by
    refine ⟨i, o, ?_, hl, hb⟩
    rw [List.getElem?_append] at hM
    split at hM
    · exact hM
    · cases hi : i - M.length with
      | zero => rw [hi] at hM; simp at hM; subst hM; exact hl.elim
      | succ q => rw [hi] at hM; simp at hM
  have ho' : ∀ b, ownedB E M b → ownedB E (M ++ [DE.free]) b := fun b ⟨i, o, hM, hl, hb⟩ => ⟨i, o, by rw [List.getElem?_append_left (lt_of_getElem? hM)]; exact hM, hl, hb⟩
  exact ⟨h.os, h.tape, h.output, h.size, fun b hb hno => h.old b hb fun hx => hno (ho b hx), h.S, fun b hb => (h.new b hb).imp (fun h => h) fun h => h.imp (fun h => h) (ho b), h.own, h.al,
    fun i o hM hl => (h.liv i o hM hl).imp (fun h => h) (ho _), fun i hi => (h.fre i hi).imp (fun h => h) fun hx o hM => hx o (by rw [List.getElem?_append_left (lt_of_getElem? hM)]; exact hM),
    fun i o hM hf => h.nof i o (by rw [List.getElem?_append_left (lt_of_getElem? hM)]; exact hM) hf⟩

theorem ext_get (M : List DE) : (M ++ [DE.free])[M.length]? = some .free := by simp
theorem ext_set (M : List DE) (o : DE) : (M ++ [DE.free]).set M.length o = M ++ [o] := by simp

/-- A block that is laid. -/
theorem push_step {E : EV} {M : List DE} {w : World} (hH : HR E M w) (n cap : Nat) {o : DE} (ob : Obj) (df : List Deferred) (hl : o.live)
    (ho : EE E (E.add M.length w.heap.size n cap) w (w.alloc ob) → OR (E.add M.length w.heap.size n cap) (w.alloc ob) M.length o) :
    HR (E.add M.length w.heap.size n cap) (M ++ [o]) (w.alloc ob) ∧ XT ⟨w, E, M, df⟩ (E.add M.length w.heap.size n cap) (M ++ [o]) (w.alloc ob) ∧ EE E (E.add M.length w.heap.size n cap) w (w.alloc ob) := by
  have h := alloc_step hH.ext n cap ob df (ext_get M) hl ho
  rw [ext_set] at h
  exact ⟨h.1, h.2.1.unext, h.2.2⟩

theorem alloc_new (w : World) (ob : Obj) : (w.alloc ob).heap[w.heap.size]? = some ob := World.alloc_heap_new w ob
theorem add_b (E : EV) (id b n cap : Nat) : (E.add id b n cap).b id = b := by simp [EV.add]
theorem add_n (E : EV) (id b n cap : Nat) : (E.add id b n cap).n id = n := by simp [EV.add]
theorem add_cap (E : EV) (id b n cap : Nat) : (E.add id b n cap).cap id = cap := by simp [EV.add]
theorem add_al (E : EV) (id b n cap : Nat) : (E.add id b n cap).al id := .inr rfl

/-- What an operation comes to that changes memory. -/
def Did (P : Program) (s : Sem Value) (E : EV) (w : World) (M M' : List DE) (v : DV) : Prop :=
  ∀ df, ∃ E' w' u, s.run P w = .ok u w' ∧ HR E' M' w' ∧ XT ⟨w, E, M, df⟩ E' M' w' ∧ VR E' w' v u

/-- A new object of cells. -/
theorem did_cells {P : Program} {E : EV} {w : World} {M : List DE} {s : Sem Value} (hH : HR E M w) {vs : List DV} {cs : Array Value} {t : TypeId} (hl : LR E w vs cs)
    (hs : s.run P w = .ok (.pointer (some ⟨w.heap.size, 0, none⟩)) (w.alloc (.cells cs t))) : Did P s E w M (M ++ [.obj vs]) (.ptr M.length 0) := fun df => by
  have h := push_step hH 0 0 (o := .obj vs) (.cells cs t) df trivial fun hE => ⟨cs, t, by rw [add_b]; exact alloc_new w _, hl.mono hE⟩
  refine ⟨_, _, _, hs, h.1, h.2.1, ?_⟩
  have := VR.ptr (w := w.alloc (.cells cs t)) (off := 0) (add_al E M.length w.heap.size 0 0)
  rw [add_b] at this
  exact this

theorem zero_LR (E : EV) (w : World) (z : Value) : LR E w (z.cells.toList.map cvc) z.cells := ⟨by simp, fun q x u h1 h2 => by
  simp only [List.getElem?_map, Array.getElem?_toList, h2, Option.map_some, Option.some.injEq] at h1
  subst h1
  exact cvc_sound E w u⟩

def zeroD (P : Program) (t : TypeId) : Option (List DV) :=
  match P.info? t with
  | some i => match i.zero with | some z => some (z.cells.toList.map cvc) | none => none
  | none => none

def alD (P : Program) (M : List DE) (t : TypeId) : Option (DV × List DE) :=
  match zeroD P t with
  | some cs => some (.ptr M.length 0, M ++ [.obj cs])
  | none => none

theorem alD_sound {P : Program} {E : EV} {w : World} {M M' : List DE} {t : TypeId} {v : DV} (h : alD P M t = some (v, M')) (hH : HR E M w) : Did P (Instr.alloc t true (.tuple #[])) E w M M' v := by
  unfold alD zeroD at h
  split at h
  · rename_i cs hz
    injection h with h; injection h with h1 h2; subst h1 h2
    split at hz
    · rename_i i hi
      split at hz
      · rename_i z hzz
        injection hz with hz; subst hz
        refine did_cells hH (zero_LR E w z) (t := t) ?_
        have hzr : (zeroValue t).run P w = .ok z w := by simp [zeroValue, typeInfo, hi, hzz]
        simp [Instr.alloc, Sem.run_bind, hzr, newVar, newRow]
      · cases hz
    · cases hz
  · cases h

def bxD (M : List DE) (x : DV) : Option (DV × List DE) :=
  match cellsD x with
  | some cs => some (.ptr M.length 0, M ++ [.obj cs])
  | none => none

theorem bxD_sound {P : Program} {E : EV} {w : World} {M M' : List DE} {t : TypeId} {x v : DV} {u : Value} (h : bxD M x = some (v, M')) (hx : VR E w x u) (hH : HR E M w) : Did P (Instr.box t u) E w M M' v := by
  unfold bxD at h
  split at h
  · rename_i cs hc
    injection h with h; injection h with h1 h2; subst h1 h2
    refine did_cells hH (cellsD_sound hc hx) (t := t) ?_
    simp [Instr.box, newVar, newRow, Sem.run_bind]
  · cases h

def mmD (M : List DE) (x : Option DV) : Option (DV × List DE) :=
  match x with
  | none => some (.mp M.length, M ++ [.map [] 0])
  | some _ => none

theorem mmD_sound {P : Program} {E : EV} {w : World} {M M' : List DE} {t : TypeId} {v : DV} (h : mmD M none = some (v, M')) (hH : HR E M w) : Did P (Instr.makeMap t none) E w M M' v := fun df => by
  injection h with h; injection h with h1 h2; subst h1 h2
  have h := push_step hH 0 0 (o := .map [] 0) (.map #[] 0) df trivial fun hE => ⟨#[], by rw [add_b]; exact alloc_new w _, rfl, fun i x m hx => by simp at hx⟩
  refine ⟨_, _, .map (some w.heap.size), by simp [Instr.makeMap], h.1, h.2.1, ?_⟩
  have := VR.mp (w := w.alloc (.map #[] 0)) (add_al E M.length w.heap.size 0 0)
  rw [add_b] at this
  exact this

/-! ### Rows -/
/-- Rows of cells. -/
def RR (E : EV) (w : World) (k : Nat) (rs : List (List DV)) (us : Nat → Option Value) : Prop :=
  ∀ j i, j < rs.length → i < k → ∃ v, us (j * k + i) = some v ∧ VR E w ((rs.getD j []).getD i .any) v

/-- A new row. -/
theorem did_row {P : Program} {E : EV} {w w0 : World} {M : List DE} {s : Sem Value} (hH : HR E M w) {rs : List (List DV)} {cs : Array Value} {t : TypeId} {k cap : Nat}
    (h0 : w0.heap = w.heap) (ho : w0.os = w.os) (ht : w0.tape = w.tape) (hp : w0.output = w.output)
    (hn : rs.length ≤ cap) (hm : cap ≤ maxLen) (hcs : cs.size = cap * k) (hr : RR E w k rs fun q => cs[q]?)
    (hs : s.run P w = .ok (.slice (some ⟨w.heap.size, 0, none⟩) rs.length cap) (w0.alloc (.cells cs t))) : Did P s E w M (M ++ [.row t k rs]) (.own M.length) := fun df => by
  have hx : XT ⟨w, E, M, df⟩ E M w0 := ⟨ho, ht, hp, by rw [h0]; exact Nat.le_refl _, fun _ _ _ => by rw [h0], fun _ h => h, fun _ h => .inl h, fun _ _ => ⟨rfl, rfl, rfl⟩, fun _ h => h, fun i o h hl => .inr (.of h hl), fun _ h => .inl h, fun _ o h hf => ⟨o, h, hf⟩⟩
  have hEw : EE E E w w0 := EE.of hH hx
  have hH0 : HR E M w0 := ⟨fun i o h => by
      by_cases hl : o.live
      · exact (hH.objs i o h).keep hEw (hH.la i o h hl) (by rw [h0])
      · cases o <;> first | trivial | exact absurd trivial hl,
    fun i o h hl => by rw [h0]; exact hH.lt i o h hl, hH.inj, hH.al, hH.la, fun b hb => by rw [h0]; exact hH.slt b hb⟩
  have hsz : w0.heap.size = w.heap.size := by rw [h0]
  have h := push_step hH0 rs.length cap (o := .row t k rs) (.cells cs t) df trivial fun hE => ⟨by rw [add_n], by rw [add_cap]; exact hn, by rw [add_cap]; exact hm, cs, by rw [add_b]; exact alloc_new w0 _, by rw [add_cap]; exact hcs, fun j i hj hi => by
    obtain ⟨v, h1, h2⟩ := hr j i hj hi
    exact ⟨v, h1, h2.mono (hEw.trans hE)⟩⟩
  refine ⟨_, _, _, hs, h.1, hx.trans h.2.1, ?_⟩
  have := VR.own (w := w0.alloc (.cells cs t)) (add_al E M.length w0.heap.size rs.length cap)
  rw [add_b, add_n, add_cap] at this
  rw [hsz] at this
  rw [hsz]
  exact this

def msD (P : Program) (M : List DE) (t : TypeId) (l c : DV) : Option (DV × List DE) :=
  match P.underlying t with
  | some (.slice e) =>
    match P.info? e, zeroD P e, l, c with
    | some i, some z, .pd p, .pd q => gd (p.isI ∧ q.isI ∧ 0 ≤ p.i ∧ p.i ≤ q.i ∧ (i.bytes : Int) * q.i ≤ 281474976710656 ∧ q.i ≤ 9223372036854775807 ∧ z.length = i.size)
        (.own M.length, M ++ [.row e i.size (List.replicate p.i.toNat z)])
    | _, _, _, _ => none
  | _ => none

theorem made_get (z : Array Value) (n q : Nat) (hq : q < n) : (madeCells z n)[q]? = some (z[q % z.size]!) := by simp [madeCells, hq]

theorem mod_row {k j i : Nat} (hi : i < k) : (j * k + i) % k = i := by rw [Nat.mul_comm, Nat.mul_add_mod, Nat.mod_eq_of_lt hi]

theorem made_RR {E : EV} {w : World} {z : Value} {k n cap : Nat} (hk : (z.cells.toList.map cvc).length = k) (hn : n ≤ cap) :
    RR E w k (List.replicate n (z.cells.toList.map cvc)) fun q => (madeCells z.cells (cap * k))[q]? := fun j i hj hi => by
  have hk' : z.cells.size = k := by simpa using hk
  simp only [List.length_replicate] at hj
  have hlt : j * k + i < cap * k := by
    have : (j + 1) * k ≤ cap * k := Nat.mul_le_mul_right k (by omega)
    rw [Nat.succ_mul] at this; omega
  have hz : z.cells[i]? = some (z.cells[i]'(by omega)) := Array.getElem?_eq_getElem _
  refine ⟨_, made_get _ _ _ hlt, ?_⟩
  rw [hk', mod_row hi, getElem!_pos z.cells i (by omega)]
  have hrow : (List.replicate n (z.cells.toList.map cvc)).getD j [] = z.cells.toList.map cvc := by
    rw [List.getD_eq_getElem?_getD, List.getElem?_replicate, if_pos hj]; rfl
  rw [hrow]
  exact (zero_LR E w z).2 i _ _ (getD_eq (by rw [hk]; exact hi)) hz

theorem msD_sound {P : Program} {E : EV} {w : World} {M M' : List DE} {t : TypeId} {l c v : DV} {ul uc : Value} (h : msD P M t l c = some (v, M')) (hl : VR E w l ul) (hc : VR E w c uc) (hH : HR E M w) :
    Did P (Instr.makeSlice t ul uc) E w M M' v := by
  unfold msD at h
  split at h
  · rename_i e ht
    split at h
    · rename_i i z p q hi hz
      obtain ⟨⟨h1, h2, h3, h4, h5, h6, h7⟩, h8⟩ := gd_some h
      injection h8 with h8 h9; subst h8 h9
      unfold zeroD at hz
      rw [hi] at hz
      simp only at hz
      split at hz
      · rename_i zv hzz
        injection hz with hz; subst hz
        cases hl with
        | pd hp => cases hc with
          | pd hq =>
            cases hp <;> simp only [PD.isI, Bool.false_eq_true] at h1
            cases hq <;> simp only [PD.isI, Bool.false_eq_true] at h2
            rename_i k1 n1 k2 n2
            simp only [PD.i] at h3 h4 h5 h6 ⊢
            have hr := run_make (P := P) w t e i zv ht hi hzz k1 k2 n1 n2 h3 h4 h5 h6
            refine did_row (w0 := w) (cap := n2.toNat) (cs := madeCells zv.cells (n2.toNat * i.size)) hH rfl rfl rfl rfl (by simp; omega) (by simp only [maxLen]; omega) (size_madeCells _ _) (made_RR h7 (by omega)) ?_
            rw [hr]; simp
      · cases hz
    · cases h
  · cases h

end Go.Proofs.YtkcelehlilppcaaGreat
