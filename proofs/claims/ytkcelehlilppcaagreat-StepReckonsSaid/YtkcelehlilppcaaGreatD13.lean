/- Appends. No condition. -/
import Derived.Test.YtkcelehlilppcaaGreatD12
set_option linter.unusedVariables false
set_option linter.unusedSimpArgs false
namespace Go.Proofs.YtkcelehlilppcaaGreat
open Go.RowKit

theorem RR_list {E : EV} {w : World} {k : Nat} {rs : List (List DV)} {us : Nat → Option Value} (h : RR E w k rs us) :
    ∃ l : List Value, l.length = rs.length * k ∧ (∀ q u, l[q]? = some u → us q = some u) ∧ RR E w k rs fun q => l[q]? := by
  have hx : ∀ q, q < rs.length * k → ∃ u, us q = some u ∧ VR E w ((rs.getD (q / k) []).getD (q % k) .any) u := fun q hq => by
    have hk : 0 < k := by
      rcases Nat.eq_zero_or_pos k with rfl | h
      · simp at hq
      · exact h
    have := h (q / k) (q % k) (Nat.div_lt_of_lt_mul (by rw [Nat.mul_comm]; exact hq)) (Nat.mod_lt _ hk)
    rwa [Nat.div_add_mod'] at this
  have hx' : ∀ q, ∃ u, q < rs.length * k → us q = some u ∧ VR E w ((rs.getD (q / k) []).getD (q % k) .any) u := fun q => by
    by_cases hq : q < rs.length * k
    · obtain ⟨u, hu⟩ := hx q hq; exact ⟨u, fun _ => hu⟩
    · exact ⟨undef, fun h => absurd h hq⟩
  obtain ⟨f, hf⟩ := Classical.axiomOfChoice hx'
  refine ⟨(List.range (rs.length * k)).map f, by simp, fun q u hq => ?_, fun j i hj hi => ?_⟩
  · simp only [List.getElem?_map] at hq
    by_cases hlt : q < rs.length * k
    · rw [List.getElem?_range hlt] at hq
      simp only [Option.map_some, Option.some.injEq] at hq
      rw [← hq]; exact (hf q hlt).1
    · rw [List.getElem?_eq_none (by simpa using hlt)] at hq; cases hq
  · have hlt := row_lt hj hi
    refine ⟨f (j * k + i), by simp [List.getElem?_map, List.getElem?_range hlt], ?_⟩
    have := (hf _ hlt).2
    rw [show (j * k + i) / k = j by rw [Nat.mul_comm, Nat.mul_add_div (by omega), Nat.div_eq_of_lt hi]; omega, mod_row hi] at this
    exact this

theorem RR.mono {E E' : EV} {w w' : World} {k : Nat} {rs : List (List DV)} {us us' : Nat → Option Value} (h : RR E w k rs us) (hE : EE E E' w w') (hu : ∀ q v, us q = some v → us' q = some v) : RR E' w' k rs us' := fun j i hj hi => by
  obtain ⟨v, h1, h2⟩ := h j i hj hi
  exact ⟨v, hu _ _ h1, h2.mono hE⟩

theorem RR_app {E : EV} {w : World} {k : Nat} {rs ns : List (List DV)} {A B C : List Value} (hA : A.length = rs.length * k) (h1 : RR E w k rs fun q => A[q]?) (h2 : RR E w k ns fun q => B[q]?) (hB : B.length = ns.length * k) :
    RR E w k (rs ++ ns) fun q => (A ++ (B ++ C))[q]? := fun j i hj hi => by
  simp only [List.length_append] at hj
  by_cases hjr : j < rs.length
  · obtain ⟨v, g1, g2⟩ := h1 j i hjr hi
    have hrow : (rs ++ ns).getD j [] = rs.getD j [] := by rw [List.getD_eq_getElem?_getD, List.getElem?_append_left hjr, ← List.getD_eq_getElem?_getD]
    rw [hrow]
    refine ⟨v, ?_, g2⟩
    show (A ++ (B ++ C))[j * k + i]? = some v
    rw [List.getElem?_append_left (by rw [hA]; exact row_lt hjr hi)]; exact g1
  · obtain ⟨v, g1, g2⟩ := h2 (j - rs.length) i (by omega) hi
    have hle : rs.length * k ≤ j * k := Nat.mul_le_mul_right k (by omega)
    have he : j * k + i - rs.length * k = (j - rs.length) * k + i := by
      rw [Nat.sub_mul]; omega
    have hrow : (rs ++ ns).getD j [] = ns.getD (j - rs.length) [] := by rw [List.getD_eq_getElem?_getD, List.getElem?_append_right (by omega), ← List.getD_eq_getElem?_getD]
    rw [hrow]
    refine ⟨v, ?_, g2⟩
    show (A ++ (B ++ C))[j * k + i]? = some v
    rw [List.getElem?_append_right (by rw [hA]; omega), hA, he, List.getElem?_append_left (by rw [hB]; exact row_lt (by omega) hi)]; exact g1

/-- The rows that a slice has. -/
def srcD (M : List DE) (k : Nat) (x : DV) : Option (List (List DV)) :=
  match x with
  | .pd .nl => some []
  | .em => some []
  | .pd (.sl k' rs) => gd (k' = k) (rs.map (·.map .pd))
  | .own id => match M[id]? with | some (.row _ k' rs) => gd (k' = k) rs | _ => none
  | _ => none

theorem srcD_sound {E : EV} {w : World} {M : List DE} {k : Nat} {x : DV} {u : Value} {rs : List (List DV)} (h : srcD M k x = some rs) (hx : VR E w x u) (hH : HR E M w) :
    ∃ base c, u = .slice base rs.length c ∧ rs.length ≤ c ∧ (base = none → rs = []) ∧ ∀ a, base = some a → ∃ b off, a = ⟨b, off, none⟩ ∧ RR E w k rs fun q => w.cell? ⟨b, off + q, none⟩ := by
  unfold srcD at h
  split at h
  · injection h with h; subst h
    cases hx with
    | pd hp => cases hp; exact ⟨none, 0, rfl, Nat.le_refl _, fun _ => rfl, fun a h => by cases h⟩
  · injection h with h; subst h
    cases hx
    exact ⟨_, 0, rfl, Nat.le_refl _, fun h => (by cases h), fun a h => by injection h with h; exact ⟨_, _, h.symm, fun j i hj => by simp at hj⟩⟩
  · obtain ⟨rfl, h2⟩ := gd_some h; subst h2
    cases hx with
    | pd hp =>
      cases hp
      rename_i rs' b off cap uu hm hcap hcc huu
      refine ⟨_, cap, by rw [List.length_map], by rw [List.length_map]; exact hcap, fun h => (by cases h), fun a h => by
        injection h with h
        refine ⟨b, off, h.symm, fun j i hj hi => ?_⟩
        rw [List.length_map] at hj
        refine ⟨uu j i, (hcc j i hj hi).2, ?_⟩
        have hrow : (rs'.map fun x => x.map DV.pd).getD j [] = rs'[j].map DV.pd := by
          rw [List.getD_eq_getElem?_getD, List.getElem?_map, List.getElem?_eq_getElem hj]; rfl
        rw [hrow]
        by_cases hl : i < rs'[j].length
        · have := huu j i hj hi
          rw [List.getD_eq_getElem?_getD (l := rs'), List.getElem?_eq_getElem hj, Option.getD_some, List.getD_eq_getElem?_getD, List.getElem?_eq_getElem hl] at this
          rw [List.getD_eq_getElem?_getD, List.getElem?_map, List.getElem?_eq_getElem hl]
          exact .pd this
        · rw [List.getD_eq_getElem?_getD, List.getElem?_map, List.getElem?_eq_none (by omega)]
          exact .any _⟩
  · split at h
    · rename_i e k' rs' hM
      obtain ⟨rfl, h2⟩ := gd_some h; subst h2
      cases hx with
      | own ha =>
        obtain ⟨g1, g2, g3, cur, g4, g5, g6⟩ := hH.objs _ _ hM
        refine ⟨_, _, by rw [g1], g2, fun h => (by cases h), fun a h => ?_⟩
        injection h with h
        refine ⟨_, 0, h.symm, fun j i hj hi => ?_⟩
        obtain ⟨v, h1, h2⟩ := g6 j i hj hi
        refine ⟨v, ?_, h2⟩
        simp only [World.cell?, g4, Option.isSome_none, Bool.false_eq_true, if_false, Nat.zero_add]; exact h1
    · cases h
  · cases h

theorem setRow_other (w : World) (g : Nat) (cs : Array Value) (q : Nat) (h : q ≠ g) : (w.setRow g cs).heap[q]? = w.heap[q]? := by
  unfold World.setRow
  simp only [Array.getElem?_modify]
  rw [if_neg (fun e => h e.symm)]

def apD (P : Program) (M : List DE) (t : TypeId) (x y : DV) : Option (DV × List DE) :=
  match P.underlying t with
  | some (.slice e) =>
    match P.info? e with
    | some i =>
      match srcD M i.size y with
      | some ns =>
        if ns.length = 0 then match srcD M i.size x with | some _ => some (x, M) | none => none
        else
          match i.zero with
          | none => none
          | some zv =>
          match x with
          | .pd .nl => gd (ns.length * i.bytes ≤ 140737488355328 ∧ ns.length ≤ maxLen ∧ zv.cells.size = i.size) (.own M.length, M ++ [.row e i.size ns])
          | .em => gd (ns.length * i.bytes ≤ 140737488355328 ∧ ns.length ≤ maxLen ∧ zv.cells.size = i.size) (.own M.length, M ++ [.row e i.size ns])
          | .own id =>
            match M[id]? with
            | some (.row e' k rs) => gd (e' = e ∧ k = i.size ∧ zv.cells.size = i.size ∧ (rs.length + ns.length) * i.bytes ≤ 140737488355328 ∧ rs.length + ns.length ≤ maxLen ∧ ns.all (fun r => decide (r.length = k) && r.all scal) = true)
                (.own M.length, M.set id .dead ++ [.row e k (rs ++ ns)])
            | _ => none
          | _ => none
      | none => none
    | none => none
  | _ => none

theorem run_append_zero {P : Program} {w : World} {t e ty : TypeId} {i : TypeInfo} (ht : P.underlying t = some (.slice e)) (hi : P.info? e = some i) (b a : Option Addr) (sLen sCap c : Nat) (h : sLen ≤ sCap) :
    (Builtin.append_ #[t, t] ty #[.slice b sLen sCap, .slice a 0 c]).run P w = .ok (.slice b sLen sCap) w := by
  cases b <;> cases a <;> simp [Builtin.append_, run_underlying ht, sizeOf, typeInfo, hi, Builtin.lenOf, h, Builtin.firstCells, loadCells, loadCellsFrom, storeCells]

theorem drew_heap (w : World) : w.drew.heap = w.heap := rfl

theorem apD_sound {P : Program} {E : EV} {w : World} {M M' : List DE} {t ty : TypeId} {x y v : DV} {u z : Value} (h : apD P M t x y = some (v, M')) (hx : VR E w x u) (hy : VR E w y z) (hH : HR E M w) :
    Did P (Builtin.append_ #[t, t] ty #[u, z]) E w M M' v := by
  unfold apD at h
  split at h
  · rename_i e ht
    split at h
    · rename_i i hi
      split at h
      · rename_i ns hs
        obtain ⟨base, c, rfl, hc, hbn, hbs⟩ := srcD_sound hs hy hH
        split at h
        · rename_i h0
          split at h
          · rename_i xs hxs
            injection h with h; injection h with h1 h2; subst h1 h2
            obtain ⟨b2, c2, rfl, hc2, _, _⟩ := srcD_sound hxs hx hH
            rw [h0]
            exact fun df => ⟨E, w, _, run_append_zero ht hi _ _ _ _ _ hc2, hH, XT.refl _ _ _ _, hx⟩
          · cases h
        · rename_i h0
          split at h
          · cases h
          · rename_i zv hz
            obtain ⟨a, rfl⟩ : ∃ a, base = some a := by
              cases base with
              | none => exact absurd (by rw [hbn rfl]; rfl) h0
              | some a => exact ⟨a, rfl⟩
            obtain ⟨b, off, rfl, hrr⟩ := hbs a rfl
            obtain ⟨l, hl1, hl2, hl3⟩ := RR_list hrr
            have hnews : ∀ j v, l[j]? = some v → w.cell? ((⟨b, off, none⟩ : Addr).add j) = some v := fun j v hj => by rw [add_off]; exact hl2 j v hj
            have hpos : 0 < ns.length := by omega
            -- a new row of what is appended alone
            have fresh : ∀ sz : Sem Value, ns.length ≤ maxLen →
                sz.run P w = .ok (.slice (some ⟨w.heap.size, 0, none⟩) ns.length (grownCap w ns.length 0 e)) (w.drew.alloc (.cells (l.toArray ++ Builtin.zeroCells zv.cells (grownCap w ns.length 0 e - ns.length)) e)) →
                zv.cells.size = i.size → Did P sz E w M (M ++ [.row e i.size ns]) (.own M.length) := fun sz hml hrun hzs => by
              have hge := grownCap_ge w ns.length 0 e
              refine did_row (w0 := w.drew) (cap := grownCap w ns.length 0 e) hH rfl rfl rfl rfl hge (grownCap_le_maxLen w _ _ _ hml) ?_ ?_ hrun
              · simp [Builtin.zeroCells, hl1, hzs]
                rw [← Nat.add_mul]; congr 1; omega
              · refine hl3.mono (EE.refl E w) fun q v hq => ?_
                have hlt : q < l.length := (List.getElem?_eq_some_iff.1 hq).1
                rw [Array.getElem?_append_left (by simpa using hlt)]
                simpa using hq
            split at h
            · obtain ⟨⟨h1, h2, h3⟩, h4⟩ := gd_some h
              injection h4 with h4 h5; subst h4 h5
              cases hx with
              | pd hp =>
                cases hp
                have hr := run_append_nil (P := P) (w := w) t ty e i zv ht hi hz ⟨b, off, none⟩ ns.length c l hl1 hnews hpos (by simp only [maxLen] at h2; omega) (by omega)
                exact fresh _ h2 hr h3
            · obtain ⟨⟨h1, h2, h3⟩, h4⟩ := gd_some h
              injection h4 with h4 h5; subst h4 h5
              cases hx
              rename_i b0 off0
              have hr := run_append_grow (P := P) (w := w) t ty e i zv ht hi hz ⟨b0, off0, none⟩ 0 0 [] (by simp) (by simp) ⟨b, off, none⟩ ns.length c l hl1 hnews (by omega) (by simp only [maxLen] at h2; omega) (by
                rw [Nat.zero_add]; exact growslice_fits hpos h1)
              simp only [Nat.zero_add] at hr
              exact fresh _ h2 (by simpa using hr) h3
            · rename_i id
              split at h
              · rename_i e' k rs hM
                obtain ⟨⟨he, rfl, h3, h4, h5, h6⟩, h7⟩ := gd_some h
                have he' : e = e' := he.symm
                subst he'
                injection h7 with h7 h8; subst h7 h8
                cases hx with
                | own ha =>
                  intro df
                  obtain ⟨g1, g2, g3, cur, g4, g5, g6⟩ := hH.objs _ _ hM
                  have hidl : id < M.length := lt_of_getElem? hM
                  have hM1 : ∀ (i' : Nat) (x : DE), (M.set id .dead ++ [DE.free])[i']? = some x → (M ++ [DE.free])[i']? = some x ∨ (x = .dead ∧ ∃ y, (M ++ [DE.free])[i']? = some y ∧ y.live) := fun i' x hx => by
                    rw [List.getElem?_append] at hx
                    split at hx
                    · rename_i hlt
                      rcases getElem?_set' hx with ⟨rfl, rfl, _⟩ | ⟨q1, q2⟩
                      · exact .inr ⟨rfl, .row e i.size rs, by rw [List.getElem?_append_left hidl]; exact hM, trivial⟩
                      · exact .inl (by rw [List.getElem?_append_left (lt_of_getElem? q2)]; exact q2)
                    · rename_i hge
                      rw [List.length_set] at hge hx
                      exact .inl (by rw [List.getElem?_append_right (by omega)]; exact hx)
                  have hset : ∀ o, (M.set id .dead ++ [DE.free]).set M.length o = M.set id .dead ++ [o] := fun o => by simp [List.set_append]
                  have hlb : E.b id < w.heap.size := (hH.lt id _ hM trivial).1
                  have hk2 : RR E w i.size rs fun q => cur[q]? := g6
                  have hbig : rs.length * i.size ≤ cur.size := by rw [g5]; exact Nat.mul_le_mul_right _ g2
                  have htk : (cur.toList.take (rs.length * i.size)).length = rs.length * i.size := by simp; omega
                  have hold : RR E w i.size rs fun q => (cur.toList.take (rs.length * i.size))[q]? := fun j q hj hq => by
                    obtain ⟨v, q1, q2⟩ := hk2 j q hj hq
                    refine ⟨v, ?_, q2⟩
                    show (cur.toList.take (rs.length * i.size))[j * i.size + q]? = some v
                    rw [List.getElem?_take, if_pos (row_lt hj hq)]; simpa using q1
                  have hone : ∀ u ∈ l, u.oneCell' = true := fun u hu => by
                    obtain ⟨q, hq, he⟩ := List.getElem_of_mem hu
                    rw [hl1] at hq
                    have hk0 : 0 < i.size := by
                      rcases Nat.eq_zero_or_pos i.size with h0 | h0
                      · rw [h0] at hq; simp at hq
                      · exact h0
                    have hqj : q / i.size < ns.length := Nat.div_lt_of_lt_mul (by rw [Nat.mul_comm]; exact hq)
                    obtain ⟨v, q1, q2⟩ := hl3 (q / i.size) (q % i.size) hqj (Nat.mod_lt _ hk0)
                    rw [Nat.div_add_mod'] at q1
                    have hv : u = v := by
                      have : l[q]? = some u := by rw [← he]; exact List.getElem?_eq_getElem _
                      have q1' : l[q]? = some v := q1
                      rw [this] at q1'; injection q1'
                    subst hv
                    have hrow := List.all_eq_true.1 h6 (ns[q / i.size]) (List.getElem_mem hqj)
                    simp only [Bool.and_eq_true, decide_eq_true_eq] at hrow
                    have hgd : ns.getD (q / i.size) [] = ns[q / i.size] := by rw [List.getD_eq_getElem?_getD, List.getElem?_eq_getElem hqj]; rfl
                    rw [hgd] at q2
                    have hmod : q % i.size < (ns[q / i.size]).length := by rw [hrow.1]; exact Nat.mod_lt _ hk0
                    refine scal_one (List.all_eq_true.1 hrow.2 _ ?_) q2
                    rw [List.getD_eq_getElem?_getD, List.getElem?_eq_getElem hmod]
                    exact List.getElem_mem hmod
                  by_cases hroom : E.n id + ns.length ≤ E.cap id
                  · have hr := run_append_room (P := P) (w := w) t ty e i ht hi (E.b id) (E.n id) (E.cap id) cur g4 ⟨b, off, none⟩ ns.length c l hl1 hnews hone hroom (by
                      rw [g1, hl1, g5, ← Nat.add_mul]; rw [g1] at hroom; exact Nat.mul_le_mul_right _ hroom)
                    rw [g1] at hr hroom
                    rw [g1]
                    have hsr := setRow_heap w (E.b id) cur (cur.toList.take (rs.length * i.size) ++ l ++ cur.toList.drop (rs.length * i.size + l.length)).toArray e (0, 0) g4
                    generalize hw' : w.setRow (E.b id) (cur.toList.take (rs.length * i.size) ++ l ++ cur.toList.drop (rs.length * i.size + l.length)).toArray = w' at hr hsr
                    have hws : w'.heap.size = w.heap.size := by rw [← hw']; simp [World.setRow]
                    have hst := new_step (w' := w') hH.ext (id := M.length) (b := E.b id) (n := rs.length + ns.length) (cap := E.cap id) (o := .row e i.size (rs ++ ns)) df (ext_get M) trivial (M.set id .dead ++ [.free]) hM1 (by simp)
                      (by rw [← hw']; rfl) (by rw [← hw']; rfl) (by rw [← hw']; rfl) (by rw [hws]; exact Nat.le_refl _) (by rw [hws]; exact hlb)
                      (.inr ⟨id, .row e i.size rs, by rw [List.getElem?_append_left hidl]; exact hM, trivial, rfl, by rw [List.getElem?_append_left (by simpa using hidl)]; exact set_self hidl⟩)
                      (fun q hq hne => by rw [← hw']; exact setRow_other w _ _ q hne)
                      (fun hE => ⟨by rw [add_n, List.length_append], by rw [add_cap, List.length_append]; exact hroom, by rw [add_cap]; exact g3, _, by rw [add_b]; exact hsr, by
                          rw [add_cap]; simp [hl1]; rw [← g5]
                          have : rs.length * i.size + ns.length * i.size ≤ cur.size := by rw [g5, ← Nat.add_mul]; exact Nat.mul_le_mul_right _ hroom
                          omega, fun j q hj hq => by
                          obtain ⟨v, q1, q2⟩ := RR_app (C := cur.toList.drop (rs.length * i.size + l.length)) htk hold hl3 hl1 j q hj hq
                          exact ⟨v, by rw [List.append_assoc]; simpa using q1, q2.mono hE⟩⟩)
                    rw [hset] at hst
                    refine ⟨_, w', _, hr, hst.1, hst.2.1.unext, ?_⟩
                    have := VR.own (w := w') (add_al E M.length (E.b id) (rs.length + ns.length) (E.cap id))
                    rw [add_b, add_n, add_cap] at this
                    exact this
                  · have hnr : E.cap id < E.n id + ns.length := by omega
                    have hold' : ∀ j v, (cur.toList.take (rs.length * i.size))[j]? = some v → w.cell? ((⟨E.b id, 0, none⟩ : Addr).add j) = some v := fun j v hj => by
                      rw [add_off, Nat.zero_add]
                      rw [List.getElem?_take] at hj
                      split at hj
                      · simp only [World.cell?, g4, Option.isSome_none, Bool.false_eq_true, if_false]; simpa using hj
                      · cases hj
                    have hr := run_append_grow (P := P) (w := w) t ty e i zv ht hi hz ⟨E.b id, 0, none⟩ (E.n id) (E.cap id) (cur.toList.take (rs.length * i.size)) (by rw [htk, g1]) hold' ⟨b, off, none⟩ ns.length c l hl1 hnews hnr (by rw [g1]; simp only [maxLen] at h5; omega) (by
                      rw [g1] at hnr ⊢; exact growslice_fits hnr h4)
                    rw [g1] at hr
                    rw [g1]
                    generalize hcap : grownCap w (rs.length + ns.length) (E.cap id) e = G at hr
                    have hge : rs.length + ns.length ≤ G := by rw [← hcap]; exact grownCap_ge _ _ _ _
                    have hgm : G ≤ maxLen := by rw [← hcap]; exact grownCap_le_maxLen w _ _ _ h5
                    generalize hcs : (cur.toList.take (rs.length * i.size)).toArray ++ l.toArray ++ Builtin.zeroCells zv.cells (G - (rs.length + ns.length)) = cs at hr
                    have hcl : cs.toList = cur.toList.take (rs.length * i.size) ++ (l ++ (Builtin.zeroCells zv.cells (G - (rs.length + ns.length))).toList) := by rw [← hcs]; simp
                    have hst := new_step (w' := w.drew.alloc (.cells cs e)) hH.ext (id := M.length) (b := w.heap.size) (n := rs.length + ns.length) (cap := G) (o := .row e i.size (rs ++ ns)) df (ext_get M) trivial (M.set id .dead ++ [.free]) hM1 (by simp)
                      rfl rfl rfl (by simp [drew_heap]) (by simp [drew_heap]) (.inl (Nat.le_refl _))
                      (fun q hq hne => Below.heap_alloc w.drew _ q hq)
                      (fun hE => ⟨by rw [add_n, List.length_append], by rw [add_cap, List.length_append]; exact hge, by rw [add_cap]; exact hgm, cs, by rw [add_b]; exact alloc_new w.drew _, by
                          rw [add_cap]
                          have : cs.size = cs.toList.length := by simp
                          rw [this, hcl]
                          simp only [List.length_append, htk, hl1, Array.length_toList, Builtin.zeroCells, Array.size_map, Array.size_range, h3]
                          rw [← Nat.add_mul, ← Nat.add_mul]; congr 1; omega, fun j q hj hq => by
                          obtain ⟨v, q1, q2⟩ := RR_app (C := (Builtin.zeroCells zv.cells (G - (rs.length + ns.length))).toList) htk hold hl3 hl1 j q hj hq
                          refine ⟨v, ?_, q2.mono hE⟩
                          have q1' : (cur.toList.take (rs.length * i.size) ++ (l ++ (Builtin.zeroCells zv.cells (G - (rs.length + ns.length))).toList))[j * i.size + q]? = some v := q1
                          rw [← hcl] at q1'
                          simpa using q1'⟩)
                    rw [hset] at hst
                    refine ⟨_, _, _, hr, hst.1, hst.2.1.unext, ?_⟩
                    have := VR.own (w := w.drew.alloc (.cells cs e)) (add_al E M.length w.heap.size (rs.length + ns.length) G)
                    rw [add_b, add_n, add_cap] at this
                    exact this
              · cases h
            · cases h
      · cases h
    · cases h
  · cases h

end Go.Proofs.YtkcelehlilppcaaGreat
