/- Functions of the library that have no body: where a byte stands, which string is the lesser. No condition. -/
import Derived.Test.YtkcelehlilppcaaGreatD16
import Derived.Laws.Externs
import Derived.KernelRfl
set_option linter.unusedVariables false
set_option linter.unusedSimpArgs false
namespace Go.Proofs.YtkcelehlilppcaaGreat
open Go.RowKit Go.MapKept

/-- Where a byte stands first; -1: nowhere. -/
def ibD (b : UInt8) : List UInt8 → Nat → Int
  | [], _ => -1
  | x :: l, i => if x = b then i else ibD b l (i + 1)

/-- Which of two stands ahead. -/
def cmD : List UInt8 → List UInt8 → Int
  | [], [] => 0
  | [], _ :: _ => -1
  | _ :: _, [] => 1
  | x :: l, y :: m => if x = y then cmD l m else if x < y then -1 else 1

theorem ibD_spec (b : UInt8) : ∀ (l : List UInt8) (k : Nat), (ibD b l k = -1 ∧ ∀ i, i < l.length → l[i]? ≠ some b) ∨ ∃ i, i < l.length ∧ l[i]? = some b ∧ (∀ j, j < i → l[j]? ≠ some b) ∧ ibD b l k = ((k + i : Nat) : Int)
  | [], k => .inl ⟨rfl, fun i hi => by simp at hi⟩
  | x :: l, k => by
    by_cases hx : x = b
    · exact .inr ⟨0, by simp, by simp [hx], fun j hj => by omega, by simp [ibD, hx]⟩
    · rcases ibD_spec b l (k + 1) with ⟨h1, h2⟩ | ⟨i, h1, h2, h3, h4⟩
      · refine .inl ⟨by simp [ibD, hx, h1], fun i hi => ?_⟩
        cases i with
        | zero => simpa using hx
        | succ i => simpa using h2 i (by simpa using hi)
      · refine .inr ⟨i + 1, by simpa using h1, by simpa using h2, fun j hj => ?_, ?_⟩
        · cases j with
          | zero => simpa using hx
          | succ j => simpa using h3 j (by omega)
        · simp only [ibD, hx, if_false, h4]; omega

theorem get_bytes (s : List UInt8) (i : Nat) (h : i < s.length) : (⟨⟨s⟩⟩ : ByteArray)[i]! = s[i] := by
  have : i < (⟨⟨s⟩⟩ : ByteArray).size := h
  rw [getElem!_pos (⟨⟨s⟩⟩ : ByteArray) i this]; rfl

theorem run_ib (P : Program) (w : World) (s : List UInt8) (k : IntKind) (b : Int) (hk : k = .u8) :
    (Extern.BytealgIndexByte.indexByte #[.string ⟨⟨s⟩⟩, .int k b]).run P w = .ok (.int .i64 (ibD b.toNat.toUInt8 s 0)) w := by
  subst hk
  have he : Extern.BytealgIndexByte.indexByte #[.string ⟨⟨s⟩⟩, .int .u8 b] = (do
      let b' ← Extern.Bytes.bytesOf (.string ⟨⟨s⟩⟩)
      let c ← Extern.Bytes.asByte (.int .u8 b)
      match (List.range b'.size).find? fun i => b'[i]! == c with
      | some i => pure (goInt i)
      | none => pure (goInt (-1))) := rfl
  rw [he]
  simp only [Extern.Bytes.bytesOf, Extern.Bytes.asByte, Sem.run_bind, Sem.run_pure, Result.andThen_ok]
  have hs : (⟨⟨s⟩⟩ : ByteArray).size = s.length := rfl
  rw [hs]
  generalize b.toNat.toUInt8 = c
  rcases ibD_spec c s 0 with ⟨h1, h2⟩ | ⟨i, h1, h2, h3, h4⟩
  · have hn : (List.range s.length).find? (fun i => (⟨⟨s⟩⟩ : ByteArray)[i]! == c) = none := List.find?_range_eq_none.2 fun i hi => by
      rw [get_bytes s i hi]
      have := h2 i hi
      rw [List.getElem?_eq_getElem hi] at this
      simpa using this
    rw [hn, h1]; rfl
  · have hn : (List.range s.length).find? (fun i => (⟨⟨s⟩⟩ : ByteArray)[i]! == c) = some i := List.find?_range_eq_some.2 ⟨by
      rw [get_bytes s i h1]
      rw [List.getElem?_eq_getElem h1] at h2
      simpa using h2, List.mem_range.2 h1, fun j hj => by
      rw [get_bytes s j (by omega)]
      have := h3 j hj
      rw [List.getElem?_eq_getElem (by omega)] at this
      simpa using this⟩
    rw [hn, h4]; simp [goInt]

theorem cmD_spec : ∀ (l m : List UInt8), (cmD l m = (if l.length < m.length then -1 else if l.length > m.length then 1 else 0) ∧ ∀ (i : Nat), i < min l.length m.length → l[i]? = m[i]?) ∨
    ∃ (i : Nat) (x y : UInt8), l[i]? = some x ∧ m[i]? = some y ∧ x ≠ y ∧ (∀ j, j < i → l[j]? = m[j]?) ∧ cmD l m = if x < y then -1 else 1
  | [], [] => .inl ⟨by simp [cmD], fun i hi => by simp at hi⟩
  | [], _ :: _ => .inl ⟨by simp [cmD], fun i hi => by simp at hi⟩
  | _ :: _, [] => .inl ⟨by simp [cmD], fun i hi => by simp at hi⟩
  | x :: l, y :: m => by
    by_cases hxy : x = y
    · subst hxy
      rcases cmD_spec l m with ⟨h1, h2⟩ | ⟨i, a, b, h1, h2, h3, h4, h5⟩
      · refine .inl ⟨by simp only [cmD, if_true, h1, List.length_cons]; simp, fun i hi => ?_⟩
        cases i with
        | zero => rfl
        | succ i => simp only [List.getElem?_cons_succ]; exact h2 i (by simp at hi ⊢; omega)
      · refine .inr ⟨i + 1, a, b, by simpa using h1, by simpa using h2, h3, fun j hj => ?_, by simp only [cmD, if_true, h5]⟩
        cases j with
        | zero => rfl
        | succ j => simp only [List.getElem?_cons_succ]; exact h4 j (by omega)
    · exact .inr ⟨0, x, y, rfl, rfl, hxy, fun j hj => by omega, by simp only [cmD, hxy, if_false]⟩

theorem cmp_eq (s t : List UInt8) : Extern.BytealgCompare.cmp ⟨⟨s⟩⟩ ⟨⟨t⟩⟩ = cmD s t := by
  unfold Extern.BytealgCompare.cmp
  have hs : (⟨⟨s⟩⟩ : ByteArray).size = s.length := rfl
  have ht : (⟨⟨t⟩⟩ : ByteArray).size = t.length := rfl
  rw [hs, ht]
  rcases cmD_spec s t with ⟨h1, h2⟩ | ⟨i, x, y, h1, h2, h3, h4, h5⟩
  · have hn : (List.range (min s.length t.length)).find? (fun i => (⟨⟨s⟩⟩ : ByteArray)[i]! != (⟨⟨t⟩⟩ : ByteArray)[i]!) = none := List.find?_range_eq_none.2 fun i hi => by
      rw [get_bytes s i (by omega), get_bytes t i (by omega)]
      have := h2 i hi
      rw [List.getElem?_eq_getElem (by omega), List.getElem?_eq_getElem (by omega)] at this
      simpa using this
    rw [hn, h1]
  · have hs' : i < s.length := (List.getElem?_eq_some_iff.1 h1).1
    have ht' : i < t.length := (List.getElem?_eq_some_iff.1 h2).1
    have ex : s[i] = x := (List.getElem?_eq_some_iff.1 h1).2
    have ey : t[i] = y := (List.getElem?_eq_some_iff.1 h2).2
    have hn : (List.range (min s.length t.length)).find? (fun i => (⟨⟨s⟩⟩ : ByteArray)[i]! != (⟨⟨t⟩⟩ : ByteArray)[i]!) = some i := List.find?_range_eq_some.2 ⟨by
      rw [get_bytes s i hs', get_bytes t i ht', ex, ey]
      simpa using h3, List.mem_range.2 (by omega), fun j hj => by
      rw [get_bytes s j (by omega), get_bytes t j (by omega)]
      have := h4 j hj
      rw [List.getElem?_eq_getElem (by omega), List.getElem?_eq_getElem (by omega)] at this
      simpa using this⟩
    rw [hn, h5]
    simp only [get_bytes s i hs', get_bytes t i ht', ex, ey]

theorem run_cm (P : Program) (w : World) (s t : List UInt8) : (Extern.BytealgCompare.compare #[.string ⟨⟨s⟩⟩, .string ⟨⟨t⟩⟩]).run P w = .ok (.int .i64 (cmD s t)) w := by
  have he : Extern.BytealgCompare.compare #[.string ⟨⟨s⟩⟩, .string ⟨⟨t⟩⟩] = (do pure (goInt (Extern.BytealgCompare.cmp (← Extern.Bytes.bytesOf (.string ⟨⟨s⟩⟩)) (← Extern.Bytes.bytesOf (.string ⟨⟨t⟩⟩))))) := rfl
  rw [he]
  simp only [Extern.Bytes.bytesOf, Sem.run_bind, Sem.run_pure, Result.andThen_ok, cmp_eq, goInt]

/-- What a call of a function comes to that has no body. -/
def extD (P : Program) (g : FuncId) (args : List DV) : Option DV :=
  match P.funcs[g]? with
  | some fn =>
    if fn.body.isNone && fn.origin == "" then
      match args with
      | [.pd (.str s), .pd (.int .u8 b)] => if fn.name == "internal/bytealg.IndexByteString" then some (.pd (.int .i64 (ibD b.toNat.toUInt8 s 0))) else none
      | [.pd (.str s), .pd (.str t)] => if fn.name == "internal/bytealg.abigen_runtime_cmpstring" then some (.pd (.int .i64 (cmD s t))) else none
      | _ => none
    else none
  | none => none

theorem find_ib {fn : Func} (h : fn.name = "internal/bytealg.IndexByteString") (ho : fn.origin = "") : Extern.findNext fn = none ∧ Extern.find fn = some Extern.BytealgIndexByte.indexByte := by
  unfold Extern.findNext Extern.find
  simp only [h, ho]
  exact ⟨by kernel_rfl, by kernel_rfl⟩

theorem find_cm {fn : Func} (h : fn.name = "internal/bytealg.abigen_runtime_cmpstring") (ho : fn.origin = "") : Extern.findNext fn = none ∧ Extern.find fn = some Extern.BytealgCompare.compare := by
  unfold Extern.findNext Extern.find
  simp only [h, ho]
  exact ⟨by kernel_rfl, by kernel_rfl⟩

theorem extD_sound {P : Program} {g : FuncId} {args : List DV} {v : DV} (h : extD P g args = some v) {E : EV} {w : World} {vs : Array Value} (hL : LR E w args vs) :
    ∃ u, (callFunc g vs).run P w = .ok (.value u) w ∧ VR E w v u := by
  unfold extD at h
  split at h
  · rename_i fn hf
    split at h
    · rename_i hb
      simp only [Bool.and_eq_true, beq_iff_eq] at hb
      obtain ⟨hb, ho⟩ := hb
      have two : ∀ {x y : DV}, LR E w [x, y] vs → ∃ a b, vs = #[a, b] ∧ VR E w x a ∧ VR E w y b := fun {x y} hl => by
        have h2 : vs.size = 2 := hl.1
        refine ⟨vs[0], vs[1], ?_, hl.2 0 x _ rfl (Array.getElem?_eq_getElem (by omega)), hl.2 1 y _ rfl (Array.getElem?_eq_getElem (by omega))⟩
        apply Array.ext
        · simp [h2]
        · intro i h3 h4
          have : i = 0 ∨ i = 1 := by simp at h4; omega
          rcases this with rfl | rfl <;> rfl
      split at h
      · rename_i s b
        split at h
        · rename_i hn
          injection h with h; subst h
          obtain ⟨a, c, rfl, ha, hc⟩ := two hL
          cases ha with | pd ha => cases hc with | pd hc =>
          cases ha; cases hc
          obtain ⟨h1, h2⟩ := find_ib (by simpa using hn) ho
          refine ⟨_, ?_, .pd (.int _ _)⟩
          rw [run_callFunc_extern hf (by rw [show fn.name = _ from by simpa using hn]; decide) hb h1 h2, run_ib P w s _ b rfl]; rfl
        · cases h
      · rename_i s t
        split at h
        · rename_i hn
          injection h with h; subst h
          obtain ⟨a, c, rfl, ha, hc⟩ := two hL
          cases ha with | pd ha => cases hc with | pd hc =>
          cases ha; cases hc
          obtain ⟨h1, h2⟩ := find_cm (by simpa using hn) ho
          refine ⟨_, ?_, .pd (.int _ _)⟩
          rw [run_callFunc_extern hf (by rw [show fn.name = _ from by simpa using hn]; decide) hb h1 h2, run_cm P w s t]; rfl
        · cases h
      · cases h
    · cases h
  · cases h

end Go.Proofs.YtkcelehlilppcaaGreat
