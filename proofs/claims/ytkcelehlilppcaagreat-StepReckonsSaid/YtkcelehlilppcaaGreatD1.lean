/- The values and memory of the abstract interpreter, and how they stand to the model's. No condition. -/
import Derived.OrdersIn
import Derived.Laws.AppendOwn
import Derived.Laws.OwnMore
import Derived.Laws.MakeOwn
import Derived.Laws.Cells
import Derived.Laws.StructEq
import Derived.Below
set_option linter.unusedVariables false
set_option linter.unusedSimpArgs false
namespace Go.Proofs.YtkcelehlilppcaaGreat
open Go.RowKit

/-- Plain data: what a cell may hold that names no memory of the call's own. -/
inductive PD where
  | bool (b : Bool)
  | int (k : IntKind) (n : Int)
  | str (s : List UInt8)
  | nl
  | sl (k : Nat) (rs : List (List PD))
instance : Inhabited PD := ⟨.nl⟩

/-- Values. -/
inductive DV where
  | any
  | un
  | pd (p : PD)
  | sa (cs : List PD)
  | np
  | ptr (id off : Nat)
  | ra (id k j off : Nat)
  | own (id : Nat)
  | em
  | yld (id : Nat)
  | mp (id : Nat)
  | nm
  | fn (f : Fn) (first cap : List DV)
  | nf
  | ifc (t : TypeId) (v : DV)
  | ni
  | agg (cs : List DV)
  | tup (vs : List DV)
instance : Inhabited DV := ⟨.any⟩

/-- Objects, and what stands at a number: not yet given away, gone, or an object. -/
inductive DE where
  | free
  | dead
  | obj (cs : List DV)
  | row (e : TypeId) (k : Nat) (rs : List (List DV))
  | map (es : List (DV × DV × Nat)) (clock : Nat)
  | it (m : Option Nat) (since : Nat) (seen : List Nat) (last : Nat)
  | loop (ts : List DV) (ps : Array Tmp) (as body : Code) (d : Nat) (st : LoopState) (pend : Option Code)
  | dfr (opn : Bool)
instance : Inhabited DE := ⟨.dead⟩

structure DS where
  t : List DV
  M : List DE

/-- The ghosts: which blocks are never written any more; which numbers are given away, and their blocks, lengths, capacities. -/
structure EV where
  S : Nat → Prop
  al : Nat → Prop
  b : Nat → Nat
  n : Nat → Nat
  cap : Nat → Nat

inductive PR (S : Nat → Prop) (w : World) : PD → Value → Prop where
  | bool (b : Bool) : PR S w (.bool b) (.bool b)
  | int (k : IntKind) (n : Int) : PR S w (.int k n) (.int k n)
  | str (s : List UInt8) : PR S w (.str s) (.string ⟨⟨s⟩⟩)
  | nl : PR S w .nl (.slice none 0 0)
  | sl {k : Nat} {rs : List (List PD)} {b off cap : Nat} (u : Nat → Nat → Value) (hcap : rs.length ≤ cap) (hm : cap ≤ maxLen)
      (hc : ∀ j i, j < rs.length → i < k → S b ∧ w.cell? ⟨b, off + (j * k + i), none⟩ = some (u j i))
      (hu : ∀ j i, j < rs.length → i < k → PR S w ((rs.getD j []).getD i .nl) (u j i)) :
      PR S w (.sl k rs) (.slice (some ⟨b, off, none⟩) rs.length cap)

inductive VR (E : EV) (w : World) : DV → Value → Prop where
  | any (v : Value) : VR E w .any v
  | un : VR E w .un undef
  | pd {p : PD} {v : Value} (h : PR E.S w p v) : VR E w (.pd p) v
  | sa {cs : List PD} {b off : Nat} (u : Nat → Value) (h : ∀ i, i < cs.length → E.S b ∧ w.cell? ⟨b, off + i, none⟩ = some (u i) ∧ PR E.S w (cs.getD i .nl) (u i)) :
      VR E w (.sa cs) (.pointer (some ⟨b, off, none⟩))
  | np : VR E w .np (.pointer none)
  | ptr {id off : Nat} (ha : E.al id) : VR E w (.ptr id off) (.pointer (some ⟨E.b id, off, none⟩))
  | ra {id k j off : Nat} (ha : E.al id) : VR E w (.ra id k j off) (.pointer (some ⟨E.b id, j * k + off, none⟩))
  | own {id : Nat} (ha : E.al id) : VR E w (.own id) (.slice (some ⟨E.b id, 0, none⟩) (E.n id) (E.cap id))
  | yld {id : Nat} (ha : E.al id) : VR E w (.yld id) (.func (.yield (E.b id)) #[] #[])
  | em {b off : Nat} : VR E w .em (.slice (some ⟨b, off, none⟩) 0 0)
  | mp {id : Nat} (ha : E.al id) : VR E w (.mp id) (.map (some (E.b id)))
  | nm : VR E w .nm (.map none)
  | fn {f : Fn} {fs cs : List DV} {vs us : Array Value} (h1 : vs.size = fs.length) (h2 : us.size = cs.length)
      (h3 : ∀ (i : Nat) (x : DV) (v : Value), fs[i]? = some x → vs[i]? = some v → VR E w x v) (h4 : ∀ (i : Nat) (x : DV) (v : Value), cs[i]? = some x → us[i]? = some v → VR E w x v) :
      VR E w (.fn f fs cs) (.func f vs us)
  | nf : VR E w .nf .nilFunc
  | ifc {t : TypeId} {x : DV} {v : Value} (h : VR E w x v) : VR E w (.ifc t x) (.iface t v)
  | ni : VR E w .ni .nilIface
  | agg {cs : List DV} {vs : Array Value} (h1 : vs.size = cs.length) (h2 : ∀ (i : Nat) (x : DV) (v : Value), cs[i]? = some x → vs[i]? = some v → VR E w x v) : VR E w (.agg cs) (.agg vs)
  | tup {cs : List DV} {vs : Array Value} (h1 : vs.size = cs.length) (h2 : ∀ (i : Nat) (x : DV) (v : Value), cs[i]? = some x → vs[i]? = some v → VR E w x v) : VR E w (.tup cs) (.tuple vs)

/-- A list of values that stand for an array's. -/
def LR (E : EV) (w : World) (cs : List DV) (vs : Array Value) : Prop :=
  vs.size = cs.length ∧ ∀ (i : Nat) (x : DV) (v : Value), cs[i]? = some x → vs[i]? = some v → VR E w x v

/-- One world of ghosts lies behind another: no block that stands is written, numbers keep their blocks. -/
structure EE (E E' : EV) (w w' : World) : Prop where
  S : ∀ b, E.S b → E'.S b
  al : ∀ i, E.al i → E'.al i
  b : ∀ i, E.al i → E'.b i = E.b i
  n : ∀ i, E.al i → E'.n i = E.n i
  cap : ∀ i, E.al i → E'.cap i = E.cap i
  heap : ∀ b, E.S b → w'.heap[b]? = w.heap[b]?

theorem EE.refl (E : EV) (w : World) : EE E E w w := ⟨fun _ h => h, fun _ h => h, fun _ _ => rfl, fun _ _ => rfl, fun _ _ => rfl, fun _ _ => rfl⟩

theorem EE.trans {E E' E'' : EV} {w w' w'' : World} (h : EE E E' w w') (k : EE E' E'' w' w'') : EE E E'' w w'' :=
  ⟨fun b x => k.S b (h.S b x), fun i x => k.al i (h.al i x), fun i x => (k.b i (h.al i x)).trans (h.b i x), fun i x => (k.n i (h.al i x)).trans (h.n i x),
   fun i x => (k.cap i (h.al i x)).trans (h.cap i x), fun b x => (k.heap b (h.S b x)).trans (h.heap b x)⟩

theorem cell_of_heap {w w' : World} {a : Addr} (h : w'.heap[a.block]? = w.heap[a.block]?) : w'.cell? a = w.cell? a := World.cell?_of_block h

theorem PR.mono {S S' : Nat → Prop} {w w' : World} (hS : ∀ b, S b → S' b) (hw : ∀ b, S b → w'.heap[b]? = w.heap[b]?) {p : PD} {v : Value} (h : PR S w p v) : PR S' w' p v := by
  induction h with
  | bool b => exact .bool b
  | int k n => exact .int k n
  | str s => exact .str s
  | nl => exact .nl
  | sl u hcap hm hc _ ih =>
    exact .sl u hcap hm (fun j i hj hi => ⟨hS _ (hc j i hj hi).1, (cell_of_heap (hw _ (hc j i hj hi).1)).trans (hc j i hj hi).2⟩) ih

theorem VR.mono {E E' : EV} {w w' : World} (h : EE E E' w w') {x : DV} {v : Value} (hx : VR E w x v) : VR E' w' x v := by
  induction hx with
  | any v => exact .any v
  | un => exact .un
  | pd hp => exact .pd (hp.mono h.S h.heap)
  | sa u hu => exact .sa u (fun i hi => ⟨h.S _ (hu i hi).1, (cell_of_heap (h.heap _ (hu i hi).1)).trans (hu i hi).2.1, (hu i hi).2.2.mono h.S h.heap⟩)
  | np => exact .np
  | ptr ha => rw [← h.b _ ha]; exact .ptr (h.al _ ha)
  | ra ha => rw [← h.b _ ha]; exact .ra (h.al _ ha)
  | own ha => rw [← h.b _ ha, ← h.n _ ha, ← h.cap _ ha]; exact .own (h.al _ ha)
  | yld ha => rw [← h.b _ ha]; exact .yld (h.al _ ha)
  | em => exact .em
  | mp ha => rw [← h.b _ ha]; exact .mp (h.al _ ha)
  | nm => exact .nm
  | fn h1 h2 _ _ h3 h4 => exact .fn h1 h2 h3 h4
  | nf => exact .nf
  | ifc _ ih => exact .ifc ih
  | ni => exact .ni
  | agg h1 _ h2 => exact .agg h1 h2
  | tup h1 _ h2 => exact .tup h1 h2

theorem LR.mono {E E' : EV} {w w' : World} (h : EE E E' w w') {cs : List DV} {vs : Array Value} (hx : LR E w cs vs) : LR E' w' cs vs :=
  ⟨hx.1, fun i x v h1 h2 => (hx.2 i x v h1 h2).mono h⟩

/-- What an object's block holds. -/
def OR (E : EV) (w : World) (id : Nat) : DE → Prop
  | .free | .dead => True
  | .obj cs => ∃ vs e, w.heap[E.b id]? = some (.cells vs e (0, 0)) ∧ LR E w cs vs
  | .row e k rs => E.n id = rs.length ∧ rs.length ≤ E.cap id ∧ E.cap id ≤ maxLen ∧ ∃ cur, w.heap[E.b id]? = some (.cells cur e (0, 0)) ∧ cur.size = E.cap id * k ∧
      ∀ j i, j < rs.length → i < k → ∃ v, cur[j * k + i]? = some v ∧ VR E w ((rs.getD j []).getD i .any) v
  | .map es cl => ∃ en, w.heap[E.b id]? = some (.map en cl) ∧ en.size = es.length ∧
      ∀ (i : Nat) (x : DV × DV × Nat) (m : MapEntry), es[i]? = some x → en[i]? = some m → VR E w x.1 m.key ∧ VR E w x.2.1 m.val ∧ m.born = x.2.2
  | .it m since seen last => w.heap[E.b id]? = some (.mapIter (m.map E.b) since seen.toArray last) ∧ ∀ j, m = some j → E.al j
  | .loop ts ps as body d st pend => ∃ fn tmps, w.heap[E.b id]? = some (.loop { state := st, pending := pend, fn, tmps, params := ps, assign := as, body, defers := E.b d }) ∧ LR E w ts tmps ∧ E.al d
  | .dfr opn => w.heap[E.b id]? = some (.deferred (if opn then some [] else none))

def DE.live : DE → Prop
  | .free | .dead => False
  | _ => True

structure HR (E : EV) (M : List DE) (w : World) : Prop where
  objs : ∀ (id : Nat) (o : DE), M[id]? = some o → OR E w id o
  lt : ∀ (id : Nat) (o : DE), M[id]? = some o → o.live → E.b id < w.heap.size ∧ ¬ E.S (E.b id)
  inj : ∀ (i j : Nat) (o o' : DE), M[i]? = some o → M[j]? = some o' → o.live → o'.live → E.b i = E.b j → i = j
  al : ∀ i, E.al i → ∃ o : DE, M[i]? = some o ∧ o ≠ .free
  la : ∀ (i : Nat) (o : DE), M[i]? = some o → o.live → E.al i
  slt : ∀ b, E.S b → b < w.heap.size

/-- What a call began with. -/
structure CX where
  w : World
  E : EV
  M : List DE
  df : List Deferred

def ownedB (E : EV) (M : List DE) (b : Nat) : Prop := ∃ (id : Nat) (o : DE), M[id]? = some o ∧ o.live ∧ E.b id = b

/-- What has become of the world since. -/
structure XT (C : CX) (E : EV) (M : List DE) (w : World) : Prop where
  os : w.os = C.w.os
  tape : w.tape = C.w.tape
  output : w.output = C.w.output
  size : C.w.heap.size ≤ w.heap.size
  old : ∀ b, b < C.w.heap.size → ¬ ownedB C.E C.M b → w.heap[b]? = C.w.heap[b]?
  S : ∀ b, C.E.S b → E.S b
  new : ∀ b, E.S b → C.E.S b ∨ C.w.heap.size ≤ b ∨ ownedB C.E C.M b
  own : ∀ i, C.E.al i → E.b i = C.E.b i ∧ E.n i = C.E.n i ∧ E.cap i = C.E.cap i
  al : ∀ i, C.E.al i → E.al i
  liv : ∀ (i : Nat) (o : DE), M[i]? = some o → o.live → C.w.heap.size ≤ E.b i ∨ ownedB C.E C.M (E.b i)
  fre : ∀ i, E.al i → C.E.al i ∨ ∀ o : DE, C.M[i]? = some o → o = .free
  nof : ∀ (i : Nat) (o : DE), C.M[i]? = some o → o ≠ .free → ∃ o' : DE, M[i]? = some o' ∧ o' ≠ .free

structure SR (C : CX) (st : DS) (a : Act) (w : World) : Prop where
  ex : ∃ E, HR E st.M w ∧ XT C E st.M w ∧ LR E w st.t a.tmps
  df : a.defers = C.df

theorem ownedB.of {E : EV} {M : List DE} {i : Nat} {o : DE} (h : M[i]? = some o) (hl : o.live) : ownedB E M (E.b i) := ⟨i, o, h, hl, rfl⟩

theorem XT.refl (w : World) (E : EV) (M : List DE) (df : List Deferred) : XT ⟨w, E, M, df⟩ E M w :=
  ⟨rfl, rfl, rfl, Nat.le_refl _, fun _ _ _ => rfl, fun _ h => h, fun _ h => .inl h, fun _ _ => ⟨rfl, rfl, rfl⟩, fun _ h => h, fun i o h hl => .inr (.of h hl), fun _ h => .inl h, fun _ o h hf => ⟨o, h, hf⟩⟩

theorem XT.trans {C : CX} {E E' : EV} {M M' : List DE} {w w' : World} {df : List Deferred} (h : XT C E M w) (k : XT ⟨w, E, M, df⟩ E' M' w') : XT C E' M' w' := by
  have hown : ∀ b, ownedB E M b → C.w.heap.size ≤ b ∨ ownedB C.E C.M b := fun b ⟨i, o, hM, hl, hb⟩ => by rw [← hb]; exact h.liv i o hM hl
  refine ⟨k.os.trans h.os, k.tape.trans h.tape, k.output.trans h.output, Nat.le_trans h.size k.size, fun b hb hno => ?_, fun b hb => k.S b (h.S b hb), fun b hb => ?_, fun i hi => ?_,
    fun i hi => k.al i (h.al i hi), fun i o hM hl => ?_, fun i hi => ?_, fun i o hM hf => ?_⟩
  · have : w'.heap[b]? = w.heap[b]? := k.old b (Nat.lt_of_lt_of_le hb h.size) fun ho => by
      rcases hown b ho with h1 | h1
      · exact absurd hb (Nat.not_lt.2 h1)
      · exact hno h1
    exact this.trans (h.old b hb hno)
  · rcases k.new b hb with h1 | h1 | h1
    · exact h.new b h1
    · exact .inr (.inl (Nat.le_trans h.size h1))
    · exact (hown b h1).elim (fun h => .inr (.inl h)) fun h => .inr (.inr h)
  · obtain ⟨a1, a2, a3⟩ := h.own i hi
    obtain ⟨b1, b2, b3⟩ := k.own i (h.al i hi)
    exact ⟨b1.trans a1, b2.trans a2, b3.trans a3⟩
  · rcases k.liv i o hM hl with h1 | h1
    · exact .inl (Nat.le_trans h.size h1)
    · exact hown _ h1
  · rcases k.fre i hi with h1 | h1
    · exact h.fre i h1
    · refine .inr fun o ho => ?_
      by_cases hf : o = .free
      · exact hf
      · obtain ⟨o', h2, h3⟩ := h.nof i o ho hf
        exact absurd (h1 o' h2) h3
  · obtain ⟨o', h2, h3⟩ := h.nof i o hM hf
    exact k.nof i o' h2 h3

end Go.Proofs.YtkcelehlilppcaaGreat
