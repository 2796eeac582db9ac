/- Regions that draw their order: how they are run. No condition. -/
import Derived.Test.YtkcelehlilppcaaGreatD24
set_option linter.unusedVariables false
set_option linter.unusedSimpArgs false
namespace Go.Proofs.YtkcelehlilppcaaGreat
open Go.RowKit Go.MapKept

mutual
/-- The numbers that a value names. -/
def numV : DV → List Nat
  | .any | .un | .pd _ | .sa _ | .np | .nm | .nf | .ni | .em => []
  | .ptr i _ | .ra i _ _ _ | .own i | .mp i | .yld i => [i]
  | .fn _ a b => numVs a ++ numVs b
  | .ifc _ x => numV x
  | .agg cs | .tup cs => numVs cs
def numVs : List DV → List Nat
  | [] => []
  | x :: l => numV x ++ numVs l
end

def numO : DE → List Nat
  | .free | .dead | .dfr _ => []
  | .obj cs => numVs cs
  | .row _ _ rs => rs.flatMap numVs
  | .map es _ => es.flatMap fun x => numV x.1 ++ numV x.2.1
  | .it m _ _ _ => m.toList
  | .loop ts _ _ _ d _ _ => d :: numVs ts

/-- All that is reached from some numbers. -/
def reach (M : List DE) : Nat → List Nat → List Nat → List Nat
  | 0, _, seen => seen
  | _ + 1, [], seen => seen
  | k + 1, i :: todo, seen => if seen.contains i then reach M k todo seen else reach M k (numO (M.getD i .dead) ++ todo) (i :: seen)

/-! ### Is an object the same? -/
mutual
def sameP : PD → PD → Bool
  | .bool a, .bool b => a == b
  | .int k a, .int k' b => decide (k = k') && decide (a = b)
  | .str a, .str b => a == b
  | .nl, .nl => true
  | .sl k rs, .sl k' rs' => decide (k = k') && samePss rs rs'
  | _, _ => false
def samePs : List PD → List PD → Bool
  | [], [] => true
  | x :: l, y :: m => sameP x y && samePs l m
  | _, _ => false
def samePss : List (List PD) → List (List PD) → Bool
  | [], [] => true
  | x :: l, y :: m => samePs x y && samePss l m
  | _, _ => false
end

mutual
def sameV : DV → DV → Bool
  | .any, .any | .un, .un | .np, .np | .nm, .nm | .nf, .nf | .ni, .ni | .em, .em => true
  | .pd a, .pd b => sameP a b
  | .sa a, .sa b => samePs a b
  | .ptr i o, .ptr i' o' => decide (i = i') && decide (o = o')
  | .ra i k j o, .ra i' k' j' o' => decide (i = i') && decide (k = k') && decide (j = j') && decide (o = o')
  | .own i, .own j | .mp i, .mp j | .yld i, .yld j => decide (i = j)
  | .fn f a b, .fn f' a' b' => decide (f = f') && sameVs a a' && sameVs b b'
  | .ifc t x, .ifc t' y => decide (t = t') && sameV x y
  | .agg a, .agg b | .tup a, .tup b => sameVs a b
  | _, _ => false
def sameVs : List DV → List DV → Bool
  | [], [] => true
  | x :: l, y :: m => sameV x y && sameVs l m
  | _, _ => false
end

def sameRows : List (List DV) → List (List DV) → Bool
  | [], [] => true
  | x :: l, y :: m => sameVs x y && sameRows l m
  | _, _ => false

def sameEs : List (DV × DV × Nat) → List (DV × DV × Nat) → Bool
  | [], [] => true
  | x :: l, y :: m => sameV x.1 y.1 && sameV x.2.1 y.2.1 && decide (x.2.2 = y.2.2) && sameEs l m
  | _, _ => false

/-- The same, and neither given away nor gone. -/
def sameE : DE → DE → Bool
  | .obj a, .obj b => sameVs a b
  | .row e k rs, .row e' k' rs' => decide (e = e') && decide (k = k') && sameRows rs rs'
  | .map es c, .map es' c' => decide (c = c') && sameEs es es'
  | .it m s l c, .it m' s' l' c' => decide (m = m') && decide (s = s') && decide (l = l') && decide (c = c')
  | .dfr a, .dfr b => a == b
  | _, _ => false

/-- The numbers that a step has changed, of those that it saw. -/
def chD (fp : List Nat) (M m : List DE) : List Nat := fp.filter fun s => !sameE (M.getD s .dead) (m.getD s .dead)

/-- What one operation of a region has done. -/
structure RC where
  dst : Option Tmp
  v : DV
  pure : Bool
  fp : List Nat
  ch : List Nat
  n : Nat
  m : List DE
  looks : List Nat

def evR (looks : List Nat) (t : List DV) : Operand → DV
  | .tmp i => if looks.contains i then t.getD i .un else .any
  | x => ev t x

def bevR (n : Nat) (looks : List Nat) (t : List DV) (x : Operand) : DV := if bdV n (evR looks t x) then evR looks t x else .any

/-- What an operation may look at. -/
def fpD (M : List DE) (r : Operand → DV) (o : Oper) : List Nat :=
  match o.op with
  | .call { callee := .value f, args, argTypes := _ } => reach M 10000 (numV (r f) ++ numVs (args.toList.map r)) []
  | .next it _ => reach M 10000 (numV (r it)) []
  | op => op.operands.toList.flatMap fun x => numV (r x)

def opsNum (r : Operand → DV) (op : Op) : List Nat := op.operands.toList.flatMap fun x => numV (r x)

/-- One operation, by what it looks at alone. -/
def xd1 (P : Program) (co : Co) (ops : Array Oper) (i : Nat) (t : List DV) (M : List DE) : Option RC :=
  match ops[i]? with
  | none => none
  | some o =>
    match wantD ops t o with
    | none => none
    | some false => some ⟨o.dst, .un, true, [], [], M.length, [], o.looksAt ops⟩
    | some true =>
      match (if (opsNum (evR (o.looksAt ops) t) o.op).all fun s => (M[s]?).isSome then vop P M (evR (o.looksAt ops) t) o.op else none) with
      | some v => some ⟨o.dst, v, true, opsNum (evR (o.looksAt ops) t) o.op, [], M.length, [], o.looksAt ops⟩
      | none =>
        let r := bevR M.length (o.looksAt ops) t
        let fp := (fpD M r o).filter fun s => decide (s < M.length)
        if (maskL fp 0 M).all (bdO M.length) then
          match xeval P co false o r (maskL fp 0 M) with
          | some (.val v m') => if M.length ≤ m'.length then some ⟨o.dst, v, false, fp, chD fp M m', M.length, m', o.looksAt ops⟩ else none
          | _ => none
        else none

def RC.t (rc : RC) (t : List DV) : List DV := putD t rc.dst rc.v
def RC.M (rc : RC) (M : List DE) : List DE := if rc.pure then M else unmaskL rc.ch rc.n 0 M rc.m

def xds (P : Program) (co : Co) (ops : Array Oper) : List Nat → List DV → List DE → Option (List RC)
  | [], _, _ => some []
  | i :: l, t, M =>
    match xd1 P co ops i t M with
    | some rc => (xds P co ops l (rc.t t) (rc.M M)).map (rc :: ·)
    | none => none

def insU (l : List Nat) (x : Nat) : List Nat := if l.contains x then l else x :: l

def ahead (ops : Array Oper) (i : Nat) : List Nat := match ops[i]? with | some o => (o.after.toList.filterMap fun e => if Region.binds .any e then some e.on else none).foldl insU [] | none => []

/-- The operations that stand ahead of one, through others too. -/
def ancs (ops : Array Oper) : Nat → List (List Nat) → List (List Nat)
  | 0, acc => acc
  | k + 1, acc => ancs ops k (acc ++ [(ahead ops acc.length).foldl (fun l j => (acc.getD j []).foldl insU l) (ahead ops acc.length)])

/-- Does each stand behind what is ahead of it? -/
def backs (ops : Array Oper) : Bool := (List.range ops.size).all fun i => (ahead ops i).all fun j => decide (j < i)

def RC.writes (rc : RC) (s : Nat) : Bool := !rc.pure && ((rc.ch.contains s && decide (s < rc.n)) || (decide (rc.n ≤ s) && decide (s < rc.m.length)))

def meets (a b : RC) : Bool :=
  (match a.dst with | some d => b.looks.contains d || b.dst == some d | none => false) ||
  (match b.dst with | some d => a.looks.contains d | none => false) ||
  b.fp.any a.writes || a.fp.any b.writes

def okPairs (an : List (List Nat)) (rcs : List RC) : Bool :=
  (List.range rcs.length).all fun i => (List.range i).all fun j => (an.getD i []).contains j || match rcs[j]?, rcs[i]? with | some a, some b => !meets a b | _, _ => false

/-- A region that draws its order. -/
def xdraw (P : Program) (co : Co) : Xd := fun ops st =>
  match xds P co ops (List.range ops.size) st.t st.M with
  | some rcs =>
    if okPairs (ancs ops ops.size []) rcs && backs ops then some { st with t := rcs.foldl (fun t rc => rc.t t) st.t, M := rcs.foldl (fun M rc => rc.M M) st.M } else none
  | none => none

end Go.Proofs.YtkcelehlilppcaaGreat
