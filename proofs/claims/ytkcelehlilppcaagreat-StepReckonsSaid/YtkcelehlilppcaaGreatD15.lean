/- All operations together. No condition. -/
import Derived.Test.YtkcelehlilppcaaGreatD14
import Derived.Laws.CopyRow
set_option linter.unusedVariables false
set_option linter.unusedSimpArgs false
namespace Go.Proofs.YtkcelehlilppcaaGreat
open Go.RowKit Go.MapKept

/-! ### Slices of rows of one's own -/
def isZero : Option DV → Bool
  | none => true
  | some (.pd (.int _ n)) => n == 0
  | _ => false

def pdL : List DV → Option (List PD)
  | [] => some []
  | .pd p :: l => (pdL l).map (p :: ·)
  | _ :: _ => none

def pdR (k : Nat) : List (List DV) → Option (List (List PD))
  | [] => some []
  | r :: rs => if r.length = k then (match pdL r, pdR k rs with | some a, some b => some (a :: b) | _, _ => none) else none

theorem pdL_spec : ∀ {l : List DV} {ps : List PD}, pdL l = some ps → ps.length = l.length ∧ ∀ i, i < l.length → l.getD i .any = .pd (ps.getD i .nl)
  | [], ps, h => by injection h with h; subst h; exact ⟨rfl, fun i hi => by simp at hi⟩
  | x :: l, ps, h => by
    cases x <;> simp only [pdL, Option.map_eq_some_iff, reduceCtorEq] at h
    rename_i p
    obtain ⟨qs, h1, rfl⟩ := h
    obtain ⟨a1, a2⟩ := pdL_spec h1
    refine ⟨by simp [a1], fun i hi => ?_⟩
    cases i with
    | zero => rfl
    | succ i => simpa using a2 i (by simpa using hi)

theorem pdR_spec {k : Nat} : ∀ {rs : List (List DV)} {ps : List (List PD)}, pdR k rs = some ps → ps.length = rs.length ∧ ∀ j, j < rs.length → (rs.getD j []).length = k ∧ pdL (rs.getD j []) = some (ps.getD j [])
  | [], ps, h => by injection h with h; subst h; exact ⟨rfl, fun i hi => by simp at hi⟩
  | r :: rs, ps, h => by
    simp only [pdR] at h
    split at h
    · rename_i hk
      split at h
      · rename_i a b h1 h2
        injection h with h; subst h
        obtain ⟨a1, a2⟩ := pdR_spec h2
        refine ⟨by simp [a1], fun j hj => ?_⟩
        cases j with
        | zero => exact ⟨hk, h1⟩
        | succ j => simpa using a2 j (by simpa using hj)
      · cases h
    · cases h

/-- A row of one's own that is written no more: its block is plain data's from now on. -/
theorem frz {E : EV} {w : World} {M : List DE} {id : Nat} {e : TypeId} {k : Nat} {rs : List (List DV)} {ps : List (List PD)} (hH : HR E M w) (hM : M[id]? = some (.row e k rs)) (hp : pdR k rs = some ps) (df : List Deferred) :
    HR { E with S := fun b => E.S b ∨ b = E.b id } (M.set id .dead) w ∧ XT ⟨w, E, M, df⟩ { E with S := fun b => E.S b ∨ b = E.b id } (M.set id .dead) w ∧
    EE E { E with S := fun b => E.S b ∨ b = E.b id } w w ∧ VR { E with S := fun b => E.S b ∨ b = E.b id } w (.pd (.sl k ps)) (.slice (some ⟨E.b id, 0, none⟩) (E.n id) (E.cap id)) := by
  have hE : EE E { E with S := fun b => E.S b ∨ b = E.b id } w w := ⟨fun _ h => .inl h, fun _ h => h, fun _ _ => rfl, fun _ _ => rfl, fun _ _ => rfl, fun _ _ => rfl⟩
  have hlt := hH.lt id _ hM trivial
  have hget : ∀ (i : Nat) (o : DE), (M.set id .dead)[i]? = some o → o.live → i ≠ id ∧ M[i]? = some o := fun i o h hl => by
    rcases getElem?_set' h with ⟨_, rfl, _⟩ | ⟨q1, q2⟩
    · exact hl.elim
    · refine ⟨fun hid => ?_, q2⟩
      subst hid
      rw [List.getElem?_set_self (lt_of_getElem? hM)] at h
      injection h with h; subst h; exact hl
  refine ⟨⟨fun i o h => ?_, fun i o h hl => ?_, fun i j o o' h h' hl hl' he => hH.inj i j o o' (hget i o h hl).2 (hget j o' h' hl').2 hl hl' he, fun i hi => ?_, fun i o h hl => hH.la i o (hget i o h hl).2 hl, fun b hb => ?_⟩, ?_, hE, ?_⟩
  · by_cases hl : o.live
    · exact (hH.objs i o (hget i o h hl).2).keep hE (hH.la i o (hget i o h hl).2 hl) rfl
    · cases o <;> first | trivial | exact absurd trivial hl
  · obtain ⟨hne, h1⟩ := hget i o h hl
    refine ⟨(hH.lt i o h1 hl).1, fun hs => ?_⟩
    rcases hs with hs | hs
    · exact (hH.lt i o h1 hl).2 hs
    · exact hne (hH.inj i id o _ h1 hM hl trivial hs)
  · obtain ⟨o, ho, hf⟩ := hH.al i hi
    by_cases hid : i = id
    · subst hid; exact ⟨.dead, List.getElem?_set_self (lt_of_getElem? hM), by simp⟩
    · exact ⟨o, by rw [List.getElem?_set_ne (Ne.symm hid)]; exact ho, hf⟩
  · rcases hb with hb | hb
    · exact hH.slt b hb
    · rw [hb]; exact hlt.1
  · refine ⟨rfl, rfl, rfl, Nat.le_refl _, fun _ _ _ => rfl, fun _ h => .inl h, fun b hb => ?_, fun _ _ => ⟨rfl, rfl, rfl⟩, fun _ h => h, fun i o h hl => .inr (.of (hget i o h hl).2 hl), fun _ h => .inl h, fun i o h hf => ?_⟩
    · rcases hb with hb | hb
      · exact .inl hb
      · exact .inr (.inr ⟨id, _, hM, trivial, hb.symm⟩)
    · by_cases hid : i = id
      · subst hid; exact ⟨.dead, List.getElem?_set_self (lt_of_getElem? hM), by simp⟩
      · exact ⟨o, by rw [List.getElem?_set_ne (Ne.symm hid)]; exact h, hf⟩
  · obtain ⟨g1, g2, g3, cur, g4, g5, g6⟩ := hH.objs _ _ hM
    obtain ⟨a1, a2⟩ := pdR_spec hp
    have hcell : ∀ j i, j < rs.length → i < k → ∃ v, w.cell? ⟨E.b id, 0 + (j * k + i), none⟩ = some v ∧ PR E.S w ((ps.getD j []).getD i .nl) v := fun j i hj hi => by
      obtain ⟨v, q1, q2⟩ := g6 j i hj hi
      obtain ⟨b1, b2⟩ := a2 j hj
      obtain ⟨c1, c2⟩ := pdL_spec b2
      rw [c2 i (by omega)] at q2
      cases q2 with
      | pd q2 => exact ⟨v, by simp only [World.cell?, g4, Option.isSome_none, Bool.false_eq_true, if_false, Nat.zero_add]; exact q1, q2⟩
    have hx : ∀ j, ∃ f : Nat → Value, ∀ i, j < rs.length → i < k → w.cell? ⟨E.b id, 0 + (j * k + i), none⟩ = some (f i) ∧ PR E.S w ((ps.getD j []).getD i .nl) (f i) := fun j => by
      have : ∀ i, ∃ v, j < rs.length → i < k → w.cell? ⟨E.b id, 0 + (j * k + i), none⟩ = some v ∧ PR E.S w ((ps.getD j []).getD i .nl) v := fun i => by
        by_cases h : j < rs.length ∧ i < k
        · obtain ⟨v, h1⟩ := hcell j i h.1 h.2; exact ⟨v, fun _ _ => h1⟩
        · exact ⟨undef, fun h1 h2 => absurd ⟨h1, h2⟩ h⟩
      obtain ⟨f, hf⟩ := Classical.axiomOfChoice this
      exact ⟨f, fun i h1 h2 => hf i h1 h2⟩
    obtain ⟨u, hu⟩ := Classical.axiomOfChoice hx
    have hsl := PR.sl (S := fun b => E.S b ∨ b = E.b id) (w := w) (k := k) (rs := ps) (b := E.b id) (off := 0) (cap := E.cap id) u (by rw [a1]; exact g2) g3
      (fun j i hj hi => ⟨.inr rfl, (hu j i (by omega) hi).1⟩) (fun j i hj hi => (hu j i (by omega) hi).2.mono (fun _ h => .inl h) (fun _ _ => rfl))
    rw [a1, ← g1] at hsl
    exact .pd hsl

/-- A part of a row of one's own that does not begin at its first: from now on plain data. -/
def fzD (P : Program) (M : List DE) (t : TypeId) (x : DV) (lo hi : Option DV) : Option (DV × List DE) :=
  match x with
  | .own id =>
    match M[id]? with
    | some (.row _ k rs) =>
      match pdR k rs with
      | some ps => (slD P t (.pd (.sl k ps)) lo hi).map (·, M.set id .dead)
      | none => none
    | _ => none
  | _ => none

theorem fzD_sound {P : Program} {E : EV} {w : World} {M M' : List DE} {t : TypeId} {x v : DV} {lo hi : Option DV} {u : Value} {lo' hi' : Option Value} (h : fzD P M t x lo hi = some (v, M')) (hx : VR E w x u)
    (hlo : lo = none ∧ lo' = none ∨ ∃ a b, lo = some a ∧ lo' = some b ∧ VR E w a b) (hhi : hi = none ∧ hi' = none ∨ ∃ a b, hi = some a ∧ hi' = some b ∧ VR E w a b) (hH : HR E M w) :
    Did P (Instr.sliceAt t u lo' hi' none) E w M M' v := by
  unfold fzD at h
  split at h
  · rename_i id
    cases hx with
    | own ha =>
      split at h
      · rename_i e k rs hM
        split at h
        · rename_i ps hp
          simp only [Option.map_eq_some_iff] at h
          obtain ⟨z, hz, h⟩ := h
          injection h with h1 h2; subst h1 h2
          intro df
          obtain ⟨f1, f2, f3, f4⟩ := frz hH hM hp df
          obtain ⟨r, r1, r2⟩ := slD_sound (lo' := lo') (hi' := hi') hz f4 (hlo.imp (fun h => h) fun ⟨a, b, q1, q2, q3⟩ => ⟨a, b, q1, q2, q3.mono f3⟩) (hhi.imp (fun h => h) fun ⟨a, b, q1, q2, q3⟩ => ⟨a, b, q1, q2, q3.mono f3⟩)
          exact ⟨_, w, r, r1, f1, f2, r2⟩
        · cases h
      · cases h
  · cases h

def cuD (P : Program) (M : List DE) (t : TypeId) (x : DV) (lo hi : Option DV) : Option (DV × List DE) :=
  match x with
  | .own id =>
    match M[id]?, P.underlying t with
    | some (.row e k rs), some (.slice e') =>
      match P.info? e', oPD (.int .i64 rs.length) hi with
      | some i, some h => if isZero lo && h.isI && decide (0 ≤ h.i ∧ h.i ≤ rs.length) then
          (if h.i = rs.length then some (.own id, M) else some (.own M.length, M.set id .dead ++ [.row e k (rs.take h.i.toNat)])) else none
      | _, _ => none
    | _, _ => none
  | _ => none

theorem isZero_sound {E : EV} {w : World} {o : Option DV} {o' : Option Value} (h : isZero o = true) (ho : o = none ∧ o' = none ∨ ∃ a b, o = some a ∧ o' = some b ∧ VR E w a b) : o' = none ∧ (0 : Int) = 0 ∨ ∃ k, o' = some (.int k 0) := by
  rcases ho with ⟨rfl, rfl⟩ | ⟨a, b, rfl, rfl, hab⟩
  · exact .inl ⟨rfl, rfl⟩
  · unfold isZero at h
    split at h
    · rename_i he; cases he
    · rename_i k n he
      injection he with he; subst he
      cases hab with
      | pd hp => cases hp; simp at h; subst h; exact .inr ⟨_, rfl⟩
    · cases h

theorem cuD_sound {P : Program} {E : EV} {w : World} {M M' : List DE} {t : TypeId} {x v : DV} {lo hi : Option DV} {u : Value} {lo' hi' : Option Value} (h : cuD P M t x lo hi = some (v, M')) (hx : VR E w x u)
    (hlo : lo = none ∧ lo' = none ∨ ∃ a b, lo = some a ∧ lo' = some b ∧ VR E w a b) (hhi : hi = none ∧ hi' = none ∨ ∃ a b, hi = some a ∧ hi' = some b ∧ VR E w a b) (hH : HR E M w) :
    Did P (Instr.sliceAt t u lo' hi' none) E w M M' v := by
  unfold cuD at h
  split at h
  · rename_i id
    split at h
    · rename_i e k rs e' hM ht
      split at h
      · rename_i i hh hi2 hhe
        split at h
        · rename_i hc
          simp only [Bool.and_eq_true, decide_eq_true_eq] at hc
          obtain ⟨⟨hz, hI⟩, h0, h1⟩ := hc
          cases hx with
          | own ha =>
            obtain ⟨g1, g2, g3, cur, g4, g5, g6⟩ := hH.objs _ _ hM
            have hl' := isZero_sound hz hlo
            have hh' := oPD_sound (m := rs.length) rfl hhe hI hhi
            have hb := run_bounds (P := P) (w := w) true rs.length (E.cap id) lo' hi' 0 hh.i hl' hh' (Int.le_refl _) h0 (by omega)
            have hrun : (Instr.sliceAt t (.slice (some ⟨E.b id, 0, none⟩) (E.n id) (E.cap id)) lo' hi' none).run P w = .ok (.slice (some ⟨E.b id, 0, none⟩) hh.i.toNat (E.cap id)) w := by
              rw [g1]
              simp only [Instr.sliceAt, Instr.slice, Sem.run_bind, run_und ht, Result.andThen_ok, hb, run_size hi2, Sem.run_pure, Int.toNat_zero, Nat.zero_mul, Nat.sub_zero, Option.map_some, add_off, Nat.add_zero, ite_self]
            split at h
            · rename_i heq
              injection h with h; injection h with h2 h3; subst h2 h3
              have hn : hh.i.toNat = E.n id := by rw [g1]; omega
              rw [hn] at hrun
              exact fun df => ⟨E, w, _, hrun, hH, XT.refl _ _ _ _, .own ha⟩
            · injection h with h; injection h with h2 h3; subst h2 h3
              intro df
              have hidl : id < M.length := lt_of_getElem? hM
              have hM1 : ∀ (i' : Nat) (x : DE), (M.set id .dead ++ [DE.free])[i']? = some x → (M ++ [DE.free])[i']? = some x ∨ (x = .dead ∧ ∃ y, (M ++ [DE.free])[i']? = some y ∧ y.live) := fun i' x hx => by
                rw [List.getElem?_append] at hx
                split at hx
                · rename_i hlt
                  rcases getElem?_set' hx with ⟨rfl, rfl, _⟩ | ⟨q1, q2⟩
                  · exact .inr ⟨rfl, .row e k rs, by rw [List.getElem?_append_left hidl]; exact hM, trivial⟩
                  · exact .inl (by rw [List.getElem?_append_left (lt_of_getElem? q2)]; exact q2)
                · rename_i hge
                  rw [List.length_set] at hge hx
                  exact .inl (by rw [List.getElem?_append_right (by omega)]; exact hx)
              have hset : ∀ o, (M.set id .dead ++ [DE.free]).set M.length o = M.set id .dead ++ [o] := fun o => by simp [List.set_append]
              have hlen : (rs.take hh.i.toNat).length = hh.i.toNat := by simp; omega
              have hst := new_step (w' := w) hH.ext (id := M.length) (b := E.b id) (n := hh.i.toNat) (cap := E.cap id) (o := .row e k (rs.take hh.i.toNat)) df (ext_get M) trivial (M.set id .dead ++ [.free]) hM1 (by simp)
                rfl rfl rfl (Nat.le_refl _) (hH.lt id _ hM trivial).1
                (.inr ⟨id, .row e k rs, by rw [List.getElem?_append_left hidl]; exact hM, trivial, rfl, by rw [List.getElem?_append_left (by simpa using hidl)]; exact set_self hidl⟩)
                (fun q hq hne => rfl)
                (fun hE => ⟨by rw [add_n, hlen], by rw [add_cap, hlen]; omega, by rw [add_cap]; exact g3, cur, by rw [add_b]; exact g4, by rw [add_cap]; exact g5, fun j q hj hq => by
                  rw [hlen] at hj
                  obtain ⟨v, q1, q2⟩ := g6 j q (by omega) hq
                  refine ⟨v, q1, ?_⟩
                  have : (rs.take hh.i.toNat).getD j [] = rs.getD j [] := by rw [List.getD_eq_getElem?_getD, List.getElem?_take, if_pos hj, ← List.getD_eq_getElem?_getD]
                  rw [this]; exact q2.mono hE⟩)
              rw [hset] at hst
              refine ⟨_, w, _, hrun, hst.1, hst.2.1.unext, ?_⟩
              have := VR.own (w := w) (add_al E M.length (E.b id) hh.i.toNat (E.cap id))
              rw [add_b, add_n, add_cap] at this
              exact this
        · cases h
      · cases h
    · cases h
  · cases h

/-- A slice of nothing that has no room: 'x[:0:0]'. -/
def c0D (P : Program) (M : List DE) (t : TypeId) (x : DV) (lo hi mx : Option DV) : Option DV :=
  match P.underlying t with
  | some (.slice e) =>
    match P.info? e with
    | some i =>
      if isZero lo && isZero hi && isZero mx && hi.isSome && mx.isSome then
        match x with
        | .pd .nl => some (.pd .nl)
        | .pd (.sl _ _) => some .em
        | .own _ => some .em
        | .em => some .em
        | _ => none
      else none
    | none => none
  | _ => none

theorem c0D_sound {P : Program} {E : EV} {w : World} {M : List DE} {t : TypeId} {x v : DV} {lo hi mx : Option DV} {u : Value} {lo' hi' mx' : Option Value} (h : c0D P M t x lo hi mx = some v) (hx : VR E w x u)
    (hlo : lo = none ∧ lo' = none ∨ ∃ a b, lo = some a ∧ lo' = some b ∧ VR E w a b) (hhi : hi = none ∧ hi' = none ∨ ∃ a b, hi = some a ∧ hi' = some b ∧ VR E w a b) (hmx : mx = none ∧ mx' = none ∨ ∃ a b, mx = some a ∧ mx' = some b ∧ VR E w a b) :
    ∃ r, (Instr.sliceAt t u lo' hi' mx').run P w = .ok r w ∧ VR E w v r := by
  unfold c0D at h
  split at h
  · rename_i e ht
    split at h
    · rename_i i hi2
      split at h
      · rename_i hc
        simp only [Bool.and_eq_true] at hc
        obtain ⟨⟨⟨⟨h1, h2⟩, h3⟩, h4⟩, h5⟩ := hc
        have a1 := isZero_sound h1 hlo
        have a2 : ∃ k, hi' = some (.int k 0) := by
          rcases isZero_sound h2 hhi with ⟨h, _⟩ | h
          · rcases hhi with ⟨h', _⟩ | ⟨a, b, _, h', _⟩
            · rw [h'] at h4; cases h4
            · rw [h'] at h; cases h
          · exact h
        have a3 : ∃ k, mx' = some (.int k 0) := by
          rcases isZero_sound h3 hmx with ⟨h, _⟩ | h
          · rcases hmx with ⟨h', _⟩ | ⟨a, b, _, h', _⟩
            · rw [h'] at h5; cases h5
            · rw [h'] at h; cases h
          · exact h
        obtain ⟨k2, rfl⟩ := a2
        obtain ⟨k3, rfl⟩ := a3
        have hb : ∀ n c, (Instr.sliceBounds true n c lo' (some (.int k2 0)) (some (.int k3 0))).run P w = .ok (0, 0, 0) w := fun n c => by
          have b1 : ∀ k y code, (Instr.sliceBound (.int k 0) y code).run P w = .ok 0 w := fun k y code => by simp [Instr.sliceBound, asIntOf]
          rcases a1 with ⟨rfl, _⟩ | ⟨k, rfl⟩ <;> simp [Instr.sliceBounds, b1]
        have hrun : ∀ a n c, (Instr.sliceAt t (.slice a n c) lo' (some (.int k2 0)) (some (.int k3 0))).run P w = .ok (.slice a 0 0) w := fun a n c => by
          simp [Instr.sliceAt, Instr.slice, Sem.run_bind, run_und ht, hb, run_size hi2]
        split at h
        · injection h with h; subst h
          cases hx with
          | pd hp => cases hp; exact ⟨_, hrun _ _ _, .pd .nl⟩
        · injection h with h; subst h
          cases hx with
          | pd hp => cases hp; exact ⟨_, hrun _ _ _, .em⟩
        · injection h with h; subst h
          cases hx; exact ⟨_, hrun _ _ _, .em⟩
        · injection h with h; subst h
          cases hx; exact ⟨_, hrun _ _ _, .em⟩
        · cases h
      · cases h
    · cases h
  · cases h

/-! ### Assertions, the least, the greatest -/
def taD (P : Program) (x : DV) (ty : TypeId) (ok : Bool) : Option DV :=
  match P.underlying ty with
  | some (.interface _) => none
  | some _ =>
    match x with
    | .ifc t v => if t = ty then some (okD ok v true) else if ok then (zeroV P ty).map fun z => okD ok z false else none
    | .ni => if ok then (zeroV P ty).map fun z => okD ok z false else none
    | _ => none
  | none => none

theorem taD_sound {P : Program} {E : EV} {w : World} {x v : DV} {xt ty : TypeId} {ok : Bool} {u : Value} (h : taD P x ty ok = some v) (hx : VR E w x u) :
    ∃ r, (Instr.typeAssert u xt ty ok).run P w = .ok r w ∧ VR E w v r := by
  unfold taD at h
  split at h
  · cases h
  · rename_i d hne ht
    split at h
    · cases hx with
      | ifc hv =>
        rename_i t vd vv
        split at h
        · rename_i he
          injection h with h; subst h he
          refine ⟨_, ?_, okD_sound ok true hv⟩
          cases d <;> first | exact (hne _ rfl).elim | simp [Instr.typeAssert, Sem.run_bind, run_und ht]
        · rename_i hne'
          split at h
          · rename_i hok
            simp only [Option.map_eq_some_iff] at h
            obtain ⟨zd, hz, rfl⟩ := h
            obtain ⟨zv, hz1, hz2⟩ := zeroV_sound hz E w
            refine ⟨_, ?_, okD_sound ok false hz2⟩
            subst hok
            cases d <;> first | exact (hne _ rfl).elim | simp [Instr.typeAssert, Sem.run_bind, run_und ht, hne', hz1]
          · cases h
    · cases hx
      split at h
      · rename_i hok
        simp only [Option.map_eq_some_iff] at h
        obtain ⟨zd, hz, rfl⟩ := h
        obtain ⟨zv, hz1, hz2⟩ := zeroV_sound hz E w
        refine ⟨_, ?_, okD_sound ok false hz2⟩
        subst hok
        cases d <;> first | exact (hne _ rfl).elim | simp [Instr.typeAssert, Sem.run_bind, run_und ht, hz1]
      · cases h
    · cases h
  · cases h

def mnD (mx : Bool) (x y : DV) : Option DV :=
  match x, y with
  | .pd (.int k a), .pd (.int k' b) => some (.pd (.int k (if mx then (if b > a then b else a) else (if b < a then b else a))))
  | _, _ => none

theorem mnD_sound {P : Program} {E : EV} {w : World} {x y v : DV} {u z : Value} (mx : Bool) (h : mnD mx x y = some v) (hx : VR E w x u) (hy : VR E w y z) :
    ∃ r, (if mx then Builtin.max2 u z else Builtin.min2 u z).run P w = .ok r w ∧ VR E w v r := by
  unfold mnD at h
  split at h
  · injection h with h; subst h
    cases hx with
    | pd hp => cases hy with
      | pd hq =>
        cases hp; cases hq
        cases mx
        · exact ⟨_, rfl, .pd (.int _ _)⟩
        · exact ⟨_, rfl, .pd (.int _ _)⟩
  · cases h

/-- A copy into a row of one's own. -/
def cpD (P : Program) (M : List DE) (t : TypeId) (x y : DV) : Option (DV × List DE) :=
  match P.underlying t with
  | some (.slice e) =>
    match P.info? e with
    | some i =>
      match srcD M i.size x, srcD M i.size y with
      | some ds, some ns =>
        if min ns.length ds.length = 0 then some (.pd (.int .i64 0), M) else
        match x with
        | .own id =>
          match M[id]? with
          | some (.row e' k rs) => gd (k = i.size ∧ (ns.take (min ns.length rs.length)).all (fun r => decide (r.length = k) && r.all scal) = true)
              (.pd (.int .i64 ((min ns.length rs.length : Nat) : Int)), M.set id (.row e' k (ns.take (min ns.length rs.length) ++ rs.drop (min ns.length rs.length))))
          | _ => none
        | _ => none
      | _, _ => none
    | none => none
  | _ => none

theorem RR.one {E : EV} {w : World} {k : Nat} {rs : List (List DV)} {l : List Value} (hl : l.length = rs.length * k) (h : RR E w k rs fun q => l[q]?) (hs : rs.all (fun r => decide (r.length = k) && r.all scal) = true) : ∀ u ∈ l, u.oneCell' = true := fun u hu => by
  obtain ⟨q, hq, he⟩ := List.getElem_of_mem hu
  rw [hl] at hq
  have hk0 : 0 < k := by
    rcases Nat.eq_zero_or_pos k with h0 | h0
    · rw [h0] at hq; simp at hq
    · exact h0
  have hqj : q / k < rs.length := Nat.div_lt_of_lt_mul (by rw [Nat.mul_comm]; exact hq)
  obtain ⟨v, q1, q2⟩ := h (q / k) (q % k) hqj (Nat.mod_lt _ hk0)
  rw [Nat.div_add_mod'] at q1
  have hv : u = v := by
    have : l[q]? = some u := by rw [← he]; exact List.getElem?_eq_getElem _
    have q1' : l[q]? = some v := q1
    rw [this] at q1'; injection q1'
  subst hv
  have hrow := List.all_eq_true.1 hs (rs[q / k]) (List.getElem_mem hqj)
  simp only [Bool.and_eq_true, decide_eq_true_eq] at hrow
  have hgd : rs.getD (q / k) [] = rs[q / k] := by rw [List.getD_eq_getElem?_getD, List.getElem?_eq_getElem hqj]; rfl
  rw [hgd] at q2
  have hmod : q % k < (rs[q / k]).length := by rw [hrow.1]; exact Nat.mod_lt _ hk0
  refine scal_one (List.all_eq_true.1 hrow.2 _ ?_) q2
  rw [List.getD_eq_getElem?_getD, List.getElem?_eq_getElem hmod]
  exact List.getElem_mem hmod

theorem RR.take {E : EV} {w : World} {k : Nat} {rs : List (List DV)} {us : Nat → Option Value} (h : RR E w k rs us) (n : Nat) : RR E w k (rs.take n) us := fun j i hj hi => by
  simp only [List.length_take] at hj
  obtain ⟨v, h1, h2⟩ := h j i (by omega) hi
  refine ⟨v, h1, ?_⟩
  have : (rs.take n).getD j [] = rs.getD j [] := by rw [List.getD_eq_getElem?_getD, List.getElem?_take, if_pos (by omega), ← List.getD_eq_getElem?_getD]
  rw [this]; exact h2

theorem cpD_sound {P : Program} {E : EV} {w : World} {M M' : List DE} {t t2 ty : TypeId} {x y v : DV} {u z : Value} (h : cpD P M t x y = some (v, M')) (hx : VR E w x u) (hy : VR E w y z) (hH : HR E M w) :
    Did P (Builtin.copy_ #[t, t2] ty #[u, z]) E w M M' v := by
  unfold cpD at h
  split at h
  · rename_i e ht
    split at h
    · rename_i i hi
      split at h
      · rename_i ds ns hds hns
        obtain ⟨b1, c1, hu, hc1, hn1, hs1⟩ := srcD_sound hds hx hH
        obtain ⟨b2, c2, rfl, hc2, hn2, hs2⟩ := srcD_sound hns hy hH
        split at h
        · rename_i h0
          injection h with h; injection h with h1 h2; subst h1 h2
          refine fun df => ⟨E, w, .int .i64 0, ?_, hH, XT.refl _ _ _ _, .pd (.int _ _)⟩
          have h0' : Nat.min ns.length ds.length = 0 := h0
          subst hu
          cases b1 <;> cases b2 <;> simp [Builtin.copy_, run_underlying ht, Builtin.lenOf, sizeOf, typeInfo, hi, h0', Builtin.firstCells, loadCells, loadCellsFrom, storeCells, goInt]
        · rename_i h0
          split at h
          · rename_i id
            split at h
            · rename_i e' k rs hM
              obtain ⟨⟨rfl, hall⟩, h2⟩ := gd_some h
              injection h2 with h2 h3; subst h2 h3
              have hds' : ds = rs := by
                simp only [srcD, hM] at hds
                obtain ⟨_, h⟩ := gd_some hds
                exact h.symm
              subst hds'
              generalize hn : min ns.length ds.length = n at h0 hall
              have hnn : n ≤ ns.length := by omega
              have hnd : n ≤ ds.length := by omega
              cases hx with
              | own ha =>
                obtain ⟨g1, g2, g3, cur, g4, g5, g6⟩ := hH.objs _ _ hM
                obtain ⟨a2, rfl⟩ : ∃ a, b2 = some a := by
                  cases b2 with
                  | none => have := hn2 rfl; subst this; simp at hnn; omega
                  | some a => exact ⟨a, rfl⟩
                obtain ⟨bb, off, rfl, hrr⟩ := hs2 a2 rfl
                obtain ⟨l, hl1, hl2, hl3⟩ := RR_list (hrr.take n)
                have hlen : (ns.take n).length = n := by simp; omega
                rw [hlen] at hl1
                have hone := RR.one (by rw [hl1, hlen]) hl3 hall
                have hld := run_loadCells_list (P := P) (w := w) ⟨bb, off, none⟩ l (fun j v hj => by rw [add_off]; exact hl2 j v hj)
                rw [hl1] at hld
                have hcap : E.cap id * i.size = cur.size := g5.symm
                have hfit : n * i.size ≤ cur.size := by rw [g5]; exact Nat.mul_le_mul_right _ (by omega)
                have hst := run_storeCells_at P (E.b id) 0 e' l 0 cur w g4 (by simp [hl1]; exact hfit) hone
                simp only [Nat.add_zero, Nat.zero_add, List.take_zero, List.nil_append] at hst
                have hsr := setRow_heap w (E.b id) cur (l ++ cur.toList.drop l.length).toArray e' (0, 0) g4
                intro df
                have hup := upd_step (w' := w.setRow (E.b id) (l ++ cur.toList.drop l.length).toArray) (o' := .row e' i.size (ns.take n ++ ds.drop n)) hH df hM trivial trivial rfl rfl rfl (by simp [World.setRow]) (fun q hq => setRow_other w _ _ q hq)
                  (fun hE => ⟨by rw [g1]; simp; omega, by simp; omega, g3, _, hsr, by simp [hl1]; rw [← g5]; omega, fun j q hj hq => by
                    simp only [List.length_append, hlen, List.length_drop] at hj
                    by_cases hjn : j < n
                    · obtain ⟨v, q1, q2⟩ := hl3 j q (by rw [hlen]; exact hjn) hq
                      have hrow : (ns.take n ++ ds.drop n).getD j [] = (ns.take n).getD j [] := by rw [List.getD_eq_getElem?_getD, List.getElem?_append_left (by rw [hlen]; exact hjn), ← List.getD_eq_getElem?_getD]
                      rw [hrow]
                      refine ⟨v, ?_, q2.mono hE⟩
                      have hlt : j * i.size + q < l.length := by rw [hl1]; exact row_lt hjn hq
                      simp only [List.getElem?_toArray]
                      rw [List.getElem?_append_left hlt]; exact q1
                    · obtain ⟨v, q1, q2⟩ := g6 j q (by omega) hq
                      have hrow : (ns.take n ++ ds.drop n).getD j [] = ds.getD j [] := by
                        rw [List.getD_eq_getElem?_getD, List.getElem?_append_right (by rw [hlen]; omega), List.getElem?_drop, hlen, show n + (j - n) = j by omega, ← List.getD_eq_getElem?_getD]
                      rw [hrow]
                      refine ⟨v, ?_, q2.mono hE⟩
                      have hle : n * i.size ≤ j * i.size := Nat.mul_le_mul_right _ (by omega)
                      simp only [List.getElem?_toArray]
                      rw [List.getElem?_append_right (by rw [hl1]; omega), List.getElem?_drop, hl1, show n * i.size + (j * i.size + q - n * i.size) = j * i.size + q by omega]
                      simpa using q1⟩)
                refine ⟨E, _, .int .i64 n, ?_, hup.1, hup.2.1, .pd (.int _ _)⟩
                have hmin : Nat.min ns.length (E.n id) = n := by rw [g1]; exact hn
                simp [Builtin.copy_, run_underlying ht, Builtin.lenOf, sizeOf, typeInfo, hi, hmin, Builtin.firstCells, hld, hst, goInt]
            · cases h
          · cases h
      · cases h
    · cases h
  · cases h

end Go.Proofs.YtkcelehlilppcaaGreat
