/-
  AM, part 1: an abstract machine over the model's code: definitions alone. Program-independent.
-/
import Derived.Orders
import Derived.Scope
import Derived.Laws.Entries
set_option linter.unusedVariables false
set_option linter.unusedSimpArgs false
namespace Go.AM

/-! ### Results: failure, one result, or any of n -/
inductive Res (α : Type) where
  | fail
  | ret (a : α)
  | any (n : Nat) (k : Nat → Res α)

def Res.bind {α β : Type} : Res α → (α → Res β) → Res β
  | .fail, _ => .fail
  | .ret a, f => f a
  | .any n k, f => .any n fun i => (k i).bind f

def Res.Sat {α : Type} : Res α → (α → Prop) → Prop
  | .fail, _ => False
  | .ret a, Q => Q a
  | .any n k, Q => ∀ i, i < n → (k i).Sat Q

/-- all results pass a test -/
def Res.all {α : Type} : Res α → (α → Bool) → Bool
  | .fail, _ => false
  | .ret a, q => q a
  | .any n k, q => (List.range n).all fun i => (k i).all q

def Res.ofOption {α : Type} : Option α → Res α
  | none => .fail
  | some a => .ret a

/-! ### The abstract heap -/
inductive ABlk where
  | dead
  | cells (c : List Value) (es : Nat) (wr ex : Bool)
  | obj (o : Obj)

/-- n: the next number; blocks below lim may not be written -/
structure AH where
  n : Nat
  lim : Nat
  b : Nat → ABlk

def AH.push (h : AH) (k : ABlk) : AH := ⟨h.n + 1, h.lim, fun i => if i = h.n then k else h.b i⟩
def AH.upd (h : AH) (b : Nat) (k : ABlk) : AH := ⟨h.n, h.lim, fun i => if i = b then k else h.b i⟩
def AH.empty : AH := ⟨0, 0, fun _ => .dead⟩
def AH.shut (h : AH) : AH := ⟨h.n, h.n, h.b⟩
def AH.reopen (h : AH) (l : Nat) : AH := ⟨h.n, l, h.b⟩

def writeAt : List Value → Nat → List Value → List Value
  | c, _, [] => c
  | c, o, v :: vs => writeAt (c.set o v) (o + 1) vs

def AH.get (h : AH) (a : Addr) : Option Value :=
  match a.spot, h.b a.block with
  | none, .cells c _ _ _ => c[a.off]?
  | _, _ => none

def AH.getN (h : AH) (a : Addr) (n : Nat) : Option (List Value) :=
  match a.spot, h.b a.block with
  | none, .cells c _ _ _ => if a.off + n ≤ c.length then some ((c.drop a.off).take n) else none
  | _, _ => none

def AH.setN (h : AH) (a : Addr) (vs : List Value) : Option AH :=
  match a.spot, h.b a.block with
  | none, .cells c es true ex =>
    if a.off + vs.length ≤ c.length ∧ vs.all Value.oneCell' = true ∧ h.lim ≤ a.block then some (h.upd a.block (.cells (writeAt c a.off vs) es true ex)) else none
  | _, _ => none

/-! ### Values without addresses -/
def scal : Value → Bool
  | .bool _ | .int _ _ | .float _ _ | .complex _ _ _ | .string _ | .pointer none | .slice none 0 0 | .map none | .chan none | .nilFunc | .nilIface => true
  | _ => false

def flat : Value → Bool
  | .agg cs => cs.toList.all scal
  | v => scal v

def flat2 : Value → Bool
  | .tuple vs => vs.toList.all flat
  | v => flat v

/-! ### The environment -/
abbrev Spec := List Value → AH → Option (Value × AH)

structure Env where
  P : Program
  under : TypeId → Option TypeDesc
  info : TypeId → Option (Nat × Nat × Value)      -- cells, bytes, zero
  func : FuncId → Option Func
  spec : FuncId → Option Spec

abbrev T := Nat → Value
def T.upd (t : T) (d : Nat) (v : Value) : T := fun i => if i = d then v else t i
def T.put (N : Nat) (t : T) (d : Option Nat) (v : Value) : T :=
  match d with
  | some d => if d < N then T.upd t d v else t
  | none => t
def T.init (args : List Value) : T := fun i => (args[i]?).getD undef

def ev (t : T) : Operand → Option Value
  | .tmp i => some (t i)
  | .const v => if flat v then some v else none
  | .global _ => none
  | .func f => some (.func (.func f) #[] #[])

def evs (t : T) : List Operand → Option (List Value)
  | [] => some []
  | x :: xs => match ev t x, evs t xs with
    | some v, some vs => some (v :: vs)
    | _, _ => none

def evo (t : T) : Option Operand → Option (Option Value)
  | none => some none
  | some x => (ev t x).map some

def evp (t : T) : List (Nat × Operand) → Option (List (Nat × Value))
  | [] => some []
  | (i, x) :: xs => match ev t x, evp t xs with
    | some v, some vs => some ((i, v) :: vs)
    | _, _ => none

def pureRun {α : Type} (P : Program) : Sem α → Option α
  | .pure a => some a
  | .program k => pureRun P (k P)
  | .mark _ k => pureRun P k
  | _ => none

def flatAt (t : T) (x : Operand) : Bool :=
  match ev t x with
  | some v => flat v
  | none => false

/-- an operation all of whose operands have no addresses, and that touches no memory -/
def afall (E : Env) (t : T) (o : Oper) : Option Value :=
  match (if o.op.operands.toList.all (flatAt t) then pureRun E.P (execOp (fun x => (ev t x).getD undef) o) else none) with
  | some (.value v) => if flat2 v then some v else none
  | _ => none

/-! ### Operations -/
def fastInt (op : BinOp) (k : IntKind) (a b : Int) : Option Value :=
  match op with
  | .add => some (.int k (k.wrap (a + b)))
  | .sub => some (.int k (k.wrap (a - b)))
  | .mul => some (.int k (k.wrap (a * b)))
  | .quo => if b = 0 then none else some (.int k (k.wrap (a.tdiv b)))
  | .rem => if b = 0 then none else some (.int k (a.tmod b))
  | .eql => some (.bool (a == b))
  | .neq => some (.bool (a != b))
  | .lss => some (.bool (decide (a < b)))
  | .leq => some (.bool (decide (a ≤ b)))
  | .gtr => some (.bool (decide (a > b)))
  | .geq => some (.bool (decide (a ≥ b)))
  | _ => none

/-- a comparison with nil -/
def isNil : Value → Option Bool
  | .pointer p => some p.isNone
  | .slice p _ _ => some p.isNone
  | .map p => some p.isNone
  | .nilFunc => some true
  | .func _ _ _ => some false
  | _ => none

/-- as isNil; of a slice without room it isn't known whether it is nil -/
def isNilA : Value → Option Bool
  | .slice (some _) _ 0 => none
  | v => isNil v

def nilFits : TypeDesc → Value → Bool
  | .pointer _, .pointer _ | .slice _, .slice _ _ _ | .map _ _, .map _ => true
  | .func _ _ _, .nilFunc | .func _ _ _, .func _ _ _ => true
  | _, _ => false

def nilEq (E : Env) (ty : TypeId) (a b : Value) : Option Bool :=
  match E.under ty, isNilA a, isNilA b with
  | some d, some x, some y => if nilFits d a && nilFits d b && (x || y) then some (x && y) else none
  | _, _, _ => none

def fastBin (E : Env) (op : BinOp) (ty : TypeId) (a b : Value) : Option Value :=
  match a, b with
  | .int k x, .int k' y => if k = k' then fastInt op k x y else none
  | .bool x, .bool y =>
    match E.under ty, op with
    | some .bool, .eql => some (.bool (x == y))
    | some .bool, .neq => some (.bool (!(x == y)))
    | _, _ => none
  | a, b =>
    match op, nilEq E ty a b with
    | .eql, some r => some (.bool r)
    | .neq, some r => some (.bool (!r))
    | _, _ => none

def isAggD : TypeDesc → Bool
  | .struct _ | .array _ _ => true
  | _ => false

def esOf (E : Env) (ty : TypeId) : Nat :=
  match E.under ty with
  | some (.array _ e) => match E.info e with | some (n, _, _) => n | none => 0
  | _ => 0

def aload (E : Env) (h : AH) (ty : TypeId) (a : Addr) : Option Value :=
  match E.under ty, E.info ty with
  | some d, some (n, _, _) => if isAggD d then (h.getN a n).map fun l => .agg l.toArray else h.get a
  | _, _ => none

def astore (E : Env) (h : AH) (ty : TypeId) (a : Addr) (v : Value) : Option AH :=
  match E.info ty with
  | some (n, _, _) => if v.cells.toList.length = n then h.setN a v.cells.toList else none
  | none => none

def fillL (place : Nat → Option (Nat × Nat)) (cells : List Value) : List (Nat × Value) → Option (List Value)
  | [] => some cells
  | (i, v) :: rest =>
    match place i with
    | none => none
    | some (off, size) =>
      if v.cells.toList.length ≠ size || off + v.cells.toList.length > cells.length then none
      else fillL place (writeAt cells off v.cells.toList) rest

def places (E : Env) : List Field → Option (List (Nat × Nat))
  | [] => some []
  | f :: fs => match E.info f.type, places E fs with
    | some (n, _, _), some r => some ((f.offset, n) :: r)
    | _, _ => none

def abuild (E : Env) (ty : TypeId) (parts : List (Nat × Value)) : Option Value :=
  match E.under ty, E.info ty with
  | some (.struct fields), some (_, _, z) =>
    if flat z then
      match places E fields.toList with
      | some ps => (fillL (fun i => ps[i]?) z.cells.toList parts).map fun l => .agg l.toArray
      | none => none
    else none
  | some (.array _ elem), some (_, _, z) =>
    if flat z then
      match E.info elem with
      | some (size, _, _) => (fillL (fun i => some (i * size, size)) z.cells.toList parts).map fun l => .agg l.toArray
      | none => none
    else none
  | _, _ => none

def reps : Nat → List Value → List Value
  | 0, _ => []
  | n + 1, l => l ++ reps n l

def abuildSlice (E : Env) (h : AH) (ty : TypeId) (len : Nat) (parts : List (Nat × Value)) : Option (Value × AH) :=
  match E.under ty with
  | some (.slice elem) =>
    match E.info elem with
    | some (size, _, z) =>
      if flat z ∧ 0 < size ∧ z.cells.toList.length = size ∧ len * size ≤ 2 ^ 24 then
        match fillL (fun i => some (i * size, size)) (reps len z.cells.toList) parts with
        | some cs => some (.slice (some ⟨h.n, 0, none⟩) len len, h.push (.cells cs size true true))
        | none => none
      else none
    | none => none
  | _ => none

def amakeSlice (E : Env) (h : AH) (ty : TypeId) (l c : Int) : Option (Value × AH) :=
  match E.under ty with
  | some (.slice elem) =>
    match E.info elem with
    | some (size, bytes, z) =>
      if flat z ∧ 0 < size ∧ z.cells.toList.length = size ∧ 0 ≤ l ∧ l ≤ c ∧ c ≤ 2 ^ 47 ∧ bytes * c ≤ 2 ^ 47 then
        some (.slice (some ⟨h.n, 0, none⟩) l.toNat c.toNat, h.push (.cells (reps c.toNat z.cells.toList) size true true))
      else none
    | none => none
  | _ => none

/-- one bound of a slice expression -/
def abound (v : Option Value) (dflt most : Nat) : Option Nat :=
  match v with
  | none => if dflt ≤ most then some dflt else none
  | some (.int _ i) => if 0 ≤ i ∧ i ≤ most then some i.toNat else none
  | some _ => none

def asliceOf (a : Addr) (size l hh m : Nat) : Value := .slice (some (a.add (l * size))) (hh - l) (m - l)

def aslice (E : Env) (h : AH) (ty : TypeId) (x : Value) (lo hi mx : Option Value) : Option Value :=
  match E.under ty, x with
  | some (.slice elem), .slice (some a) len cap =>
    if a.spot ≠ none then
      -- of no room at all, wherever it lies
      match E.info elem, abound mx 0 0, abound hi (if mx.isSome then 1 else 0) 0, abound lo 0 0 with
      | some _, some _, some _, some _ => if len = 0 ∧ cap = 0 then some (.slice (some a) 0 0) else none
      | _, _, _, _ => none
    else
    match E.info elem, a.spot, h.b a.block with
    | some (size, _, _), none, .cells _ es _ _ =>
      if size ≠ es then none else
      match abound mx cap cap with
      | none => none
      | some m =>
        match abound hi (if mx.isSome then m + 1 else len) m with
        | none => none
        | some hh =>
          match abound lo 0 hh with
          | none => none
          | some l => some (asliceOf a size l hh m)
    | _, _, _ => none
  | some (.slice elem), .slice none 0 0 =>
    match E.info elem, abound mx 0 0 with
    | some _, some _ =>
      match abound hi (if mx.isSome then 1 else 0) 0, abound lo 0 0 with
      | some _, some _ => some (.slice none 0 0)
      | _, _ => none
    | _, _ => none
  | some (.array n elem), .pointer (some a) =>
    match E.info elem, a.spot, h.b a.block with
    | some (size, _, _), none, .cells c es _ true =>
      if size ≠ es ∨ a.off + n * size > c.length then none else
      match abound mx n n with
      | none => none
      | some m =>
        match abound hi (if mx.isSome then m + 1 else n) m with
        | none => none
        | some hh =>
          match abound lo 0 hh with
          | none => none
          | some l => some (asliceOf a size l hh m)
    | _, _, _ => none
  | _, _ => none

def afieldAddr (E : Env) (s : TypeId) (x : Value) (f : Nat) : Option Value :=
  match E.under s, x with
  | some (.struct fields), .pointer (some a) =>
    match fields.toList[f]? with
    | some fd => match E.info fd.type with
      | some (n, _, _) => if n = 0 ∨ a.spot ≠ none then none else some (.pointer (some (a.add fd.offset)))
      | none => none
    | none => none
  | _, _ => none

def apart (E : Env) (ty : TypeId) (cs : List Value) (off : Nat) : Option Value :=
  match E.under ty, E.info ty with
  | some d, some (n, _, _) => if isAggD d then some (.agg ((cs.drop off).take n).toArray) else cs[off]?
  | _, _ => none

def afield (E : Env) (s : TypeId) (x : Value) (f : Nat) : Option Value :=
  match E.under s, x with
  | some (.struct fields), .agg cs => match fields.toList[f]? with
    | some fd => apart E fd.type cs.toList fd.offset
    | none => none
  | _, _ => none

def aindexAddr (E : Env) (ty : TypeId) (x i : Value) : Option Value :=
  match E.under ty, x, i with
  | some (.slice elem), .slice (some a) len _, .int _ j =>
    match E.info elem with
    | some (n, _, _) => if 0 ≤ j ∧ j < len ∧ a.spot = none then some (.pointer (some (a.add (j.toNat * n)))) else none
    | none => none
  | some (.array len elem), .pointer (some a), .int _ j =>
    match E.info elem with
    | some (n, _, _) => if 0 ≤ j ∧ j < len ∧ a.spot = none then some (.pointer (some (a.add (j.toNat * n)))) else none
    | none => none
  | _, _, _ => none

def aindex (E : Env) (ty : TypeId) (x i : Value) : Option Value :=
  match E.under ty, x, i with
  | some (.array len elem), .agg cs, .int _ j =>
    match E.info elem with
    | some (n, _, _) => if 0 ≤ j ∧ j < len then apart E elem cs.toList (j.toNat * n) else none
    | none => none
  | _, _, _ => none

def sliceCells (h : AH) (size : Nat) : Value → Option (List Value)
  | .slice none 0 0 => some []
  | .slice (some a) n _ => if n = 0 then some [] else h.getN a (n * size)
  | _ => none

def aappend (E : Env) (h : AH) (sType xType : TypeId) (s x : Value) : Option (Value × AH) :=
  match E.under sType, E.under xType with
  | some (.slice elem), some (.slice _) =>
    match E.info elem, s, x with
    | some (size, bytes, z), .slice base n c, .slice _ k _ =>
      if flat z ∧ 0 < size ∧ z.cells.toList.length = size ∧ (n + k) * bytes ≤ 2 ^ 47 ∧ n + k ≤ 2 ^ 47 ∧ bytes ≤ 2 ^ 32 then
        match sliceCells h size s, sliceCells h size x with
        | some old, some new =>
          if new.all Value.oneCell' = true then
            match base with
            | none => if k = 0 then some (.slice none 0 0, h) else some (.slice (some ⟨h.n, 0, none⟩) (n + k) (n + k), h.push (.cells (old ++ new) size true false))
            | some a =>
              if a.spot ≠ none then
                if k = 0 then some (.slice base n c, h) else some (.slice (some ⟨h.n, 0, none⟩) (n + k) (n + k), h.push (.cells (old ++ new) size true false))
              else
              match h.b a.block with
              | .cells cc es wr ex =>
                if es ≠ size then none else
                if n + k ≤ c then
                  -- in place, in both machines
                  if k = 0 then some (.slice base n c, h) else
                  if wr = true ∧ a.off + c * size ≤ cc.length then
                    (h.setN (a.add (n * size)) new).map fun h' => (.slice base (n + k) c, h')
                  else none
                else
                  let h1 := if ex = false then h.upd a.block .dead else h
                  if ex = false ∧ (wr = false ∨ a.block < h.lim) then none else
                  some (.slice (some ⟨h.n, 0, none⟩) (n + k) (n + k), h1.push (.cells (old ++ new) size true false))
              | _ => none
          else none
        | _, _ => none
      else none
    | _, _, _ => none
  | _, _ => none

def acopy (E : Env) (h : AH) (dType : TypeId) (d s : Value) : Option (Value × AH) :=
  match E.under dType with
  | some (.slice elem) =>
    match E.info elem, d, s with
    | some (size, _, _), .slice db dn _, .slice sb sn sc =>
      if 0 < size then
      match sliceCells h size (.slice sb (Nat.min sn dn) sc) with
      | some cs =>
        match db with
        | none => some (.int .i64 0, h)
        | some a => if Nat.min sn dn = 0 then some (.int .i64 0, h) else (h.setN a cs).map fun h' => (.int .i64 (Nat.min sn dn : Nat), h')
      | none => none
      else none
    | _, _, _ => none
  | _ => none

def minList : Int → List Value → IntKind → Option Int
  | m, [], _ => some m
  | m, .int k y :: r, k0 => if k = k0 then minList (if y < m then y else m) r k0 else none
  | _, _, _ => none
def maxList : Int → List Value → IntKind → Option Int
  | m, [], _ => some m
  | m, .int k y :: r, k0 => if k = k0 then maxList (if y > m then y else m) r k0 else none
  | _, _, _ => none

def abuiltin (E : Env) (h : AH) (b : Builtin) (tys : List TypeId) (vs : List Value) : Option (Value × AH) :=
  match b, tys, vs with
  | .len, ty :: _, .slice _ n _ :: _ => match E.under ty with | some (.slice _) => some (.int .i64 n, h) | _ => none
  | .min, _, .int k x :: r => (minList x r k).map fun m => (.int k m, h)
  | .max, _, .int k x :: r => (maxList x r k).map fun m => (.int k m, h)
  | .append, [sT, xT], [s, x] => aappend E h sT xT s x
  | .copy, dT :: _, [d, s] => acopy E h dT d s
  | _, _, _ => none

def orElse {α : Type} : Option α → (Unit → Option α) → Option α
  | some a, _ => some a
  | none, f => f ()

def same (h : AH) (v : Option Value) : Option (Value × AH) := match v with | some v => some (v, h) | none => none

def aop (E : Env) (t : T) (h : AH) (o : Oper) : Option (Value × AH) :=
  match o.op with
  | .move x | .assign x => same h (ev t x)
  | .pick c a b => match ev t c with
    | some (.bool true) => same h (ev t a)
    | some (.bool false) => same h (ev t b)
    | _ => none
  | .alloc elem => match E.info elem with
    | some (_, _, z) => if flat z then some (.pointer (some ⟨h.n, 0, none⟩), h.push (.cells z.cells.toList (esOf E elem) true true)) else none
    | none => none
  | .box elem x => match ev t x with
    | some v => some (.pointer (some ⟨h.n, 0, none⟩), h.push (.cells v.cells.toList (esOf E elem) true true))
    | none => none
  | .build ty parts => match evp t parts.toList with
    | some ps => same h (abuild E ty ps)
    | none => none
  | .buildSlice ty len parts => match evp t parts.toList with
    | some ps => abuildSlice E h ty len ps
    | none => none
  | .load ty a => match ev t a with
    | some (.pointer (some ad)) => same h (aload E h ty ad)
    | _ => none
  | .store ty a x => match ev t a, ev t x with
    | some (.pointer (some ad)), some v => match astore E h ty ad v with
      | some h' => some (undef, h')
      | none => none
    | _, _ => none
  | .nilCheck x => match ev t x with
    | some (.pointer (some a)) => some (.pointer (some a), h)
    | _ => none
  | .binOp op ty x y _ => match ev t x, ev t y with
    | some a, some b => orElse (same h (fastBin E op ty a b)) fun _ => same h (afall E t o)
    | _, _ => none
  | .makeFunc fn first captured => match evs t first.toList, evs t captured.toList with
    | some a, some b => some (.func fn a.toArray b.toArray, h)
    | _, _ => none
  | .slice ty x lo hi mx => match ev t x, evo t lo, evo t hi, evo t mx with
    | some v, some l, some u, some m => same h (aslice E h ty v l u m)
    | _, _, _, _ => none
  | .fieldAddr s x f => match ev t x with
    | some v => same h (afieldAddr E s v f)
    | none => none
  | .field s x f => match ev t x with
    | some v => same h (afield E s v f)
    | none => none
  | .indexAddr ty x i => match ev t x, ev t i with
    | some v, some j => same h (aindexAddr E ty v j)
    | _, _ => none
  | .index ty x i => match ev t x, ev t i with
    | some v, some j => orElse (same h (aindex E ty v j)) fun _ => same h (afall E t o)
    | _, _ => none
  | .extract x i => match ev t x with
    | some (.tuple vs) => same h (vs.toList[i]?)
    | _ => none
  | .makeSlice ty l c => match ev t l, ev t c with
    | some (.int _ a), some (.int _ b) => amakeSlice E h ty a b
    | _, _ => none
  | .unOp _ _ _ | .convert _ _ _ => same h (afall E t o)
  | .call { callee := .builtin b, args, argTypes } => match evs t args.toList with
    | some vs => orElse (abuiltin E h b argTypes.toList vs) fun _ => same h (afall E t o)
    | none => none
  | _ => none

/-! ### Code -/
abbrev Out := Exit × T × AH
abbrev Rec := Nat → Code → T → AH → Res Out

def aresult (E : Env) (h : AH) (t : T) : ResultVar → Option Value
  | .tmp i => some (t i)
  | .cell a ty => match t a with
    | .pointer (some ad) => aload E h ty ad
    | _ => none

def aresultsL (E : Env) (h : AH) (t : T) : List ResultVar → Option (List Value)
  | [] => some []
  | r :: rs => match aresult E h t r, aresultsL E h t rs with
    | some v, some vs => some (v :: vs)
    | _, _ => none

def aresults (E : Env) (fn : Func) (t : T) (h : AH) : Option Value :=
  match aresultsL E h t fn.results.toList with
  | some [v] => some v
  | some vs => some (.tuple vs.toArray)
  | none => none

def Nof (fn : Func) (k : Nat) : Nat := k + (fn.ntmps - k)

def acall (E : Env) (r : Rec) (g : FuncId) (args : List Value) (h : AH) : Res (Value × AH) :=
  match E.spec g with
  | some s => .ofOption (s args h)
  | none =>
    match E.func g with
    | some fn => match fn.body with
      | some c => (r (Nof fn args.length) c (T.init args) h).bind fun
        | (.normal, t, h') | (.ret, t, h') => match aresults E fn t h' with
          | some v => .ret (v, h')
          | none => .fail
        | _ => .fail
      | none => .fail
    | none => .fail

def astep (E : Env) (r : Rec) (o : Oper) (t : T) (h : AH) : Res (Value × AH) :=
  match o.op with
  | .call { callee := .value f, args, argTypes := _ } =>
    match ev t f, evs t args.toList with
    | some (.func (.func g) first captured), some as =>
      match acall E r g (first.toList ++ as ++ captured.toList) h with
      | .fail => .ofOption (same h (afall E t o))
      | x => x
    | _, _ => .fail
  | _ => .ofOption (aop E t h o)

def yieldedA (ops : List Oper) (t : T) (j : Nat) : Option Bool :=
  match (ops[j]?).bind (·.dst) with
  | some d => match t d with
    | .bool b => some b
    | _ => none
  | none => none

def wantedA (ops : List Oper) (t : T) (o : Oper) : Bool :=
  match o.guard with
  | none => true
  | some (j, want) => yieldedA ops t j == some want

def aopsGo (E : Env) (r : Rec) (N : Nat) (ops : List Oper) : List Oper → T → AH → Res (T × AH)
  | [], t, h => .ret (t, h)
  | o :: os, t, h =>
    if wantedA ops t o then (astep E r o t h).bind fun x => aopsGo E r N ops os (t.put N o.dst x.1) x.2
    else aopsGo E r N ops os (t.put N o.dst undef) h

def ascope (r : Rec) (N : Nat) (c : Code) : Nat → Code → T → AH → Res Out
  | 0, _, _, _ => .fail
  | k + 1, cur, t, h => (r N cur t h).bind fun
    | (.goto l, t', h') => match findLabel c l with
      | some rest => ascope r N c k rest t' h'
      | none => .fail
    | x => .ret x

def aloop (r : Rec) (N : Nat) (c : Code) : Nat → T → AH → Res Out
  | 0, _, _ => .fail
  | k + 1, t, h => (r N c t h).bind fun
    | (.normal, t', h') => aloop r N c k t' h'
    | x => .ret x

/-! ### regions that draw their order: walked in the text's order, where that can make no difference -/
/-- does an operation look at memory? -/
def heapOp (o : Oper) : Bool :=
  match o.op with
  | .move _ | .assign _ | .pick .. | .build .. | .field .. | .index .. | .extract .. | .binOp .. | .unOp .. | .convert .. | .makeFunc .. | .fieldAddr .. | .indexAddr .. | .nilCheck _ => false
  | .call { callee := .builtin b, .. } => match b with
    | .append | .copy => true
    | _ => false
  | _ => true

def edges (o : Oper) : List Nat := o.after.toList.filterMap fun e => if Region.binds .any e then some e.on else none

/-- of each operation, who must have come up before it: bits -/
def masks : List Oper → List Nat → List Nat
  | [], acc => acc
  | o :: os, acc => masks os (acc ++ [(edges o).foldl (fun m e => m ||| 2 ^ e ||| (acc[e]?).getD 0) 0])

def isBefore (ms : List Nat) (i j : Nat) : Bool := ((ms[j]?).getD 0).testBit i
def ordered (ms : List Nat) (i j : Nat) : Bool := isBefore ms (min i j) (max i j)

/-- the temporaries that an operation looks at -/
def looks (ops : List Oper) (o : Oper) : List Nat :=
  (o.op.operands.toList.filterMap fun | .tmp t => some t | _ => none) ++
  (match o.guard with
   | some (g, _) => ((ops[g]?).bind (·.dst)).toList
   | none => [])

/-- an operation that is ordered against all others that look at memory -/
def barrier (ops : List Oper) (ms : List Nat) (j : Nat) : Bool :=
  (List.range ops.length).all fun i => i == j || !(match ops[i]? with | some o => heapOp o | none => false) || ordered ms i j

def pairOk (ops : List Oper) (ms : List Nat) (i j : Nat) (oi oj : Oper) : Bool :=
  i == j || (match oi.dst with
    | some d => oj.dst != some d && (!(looks ops oj).contains d || ordered ms i j)
    | none => true)

def drawOk (ops : List Oper) : Bool :=
  let ms := masks ops []
  (List.range ops.length).all fun j => match ops[j]? with
    | some oj => (edges oj).all (fun e => decide (e < j)) && (match oj.op with | .select .. => false | _ => true) &&
      (List.range ops.length).all fun i => match ops[i]? with
        | some oi => pairOk ops ms i j oi oj
        | none => true
    | none => true

def aopsD (E : Env) (r : Rec) (N : Nat) (ops : List Oper) (ms : List Nat) : Nat → List Oper → T → AH → Res (T × AH)
  | _, [], t, h => .ret (t, h)
  | j, o :: os, t, h =>
    if wantedA ops t o then
      if heapOp o && !barrier ops ms j then
        match astep E r o t h.shut with
        | .ret x => aopsD E r N ops ms (j + 1) os (t.put N o.dst x.1) (x.2.reopen h.lim)
        | _ => .fail
      else
        match astep E r o t h with
        | .ret x => aopsD E r N ops ms (j + 1) os (t.put N o.dst x.1) x.2
        | _ => .fail
    else aopsD E r N ops ms (j + 1) os (t.put N o.dst undef) h

def abody (E : Env) (fuel : Nat) (r : Rec) (N : Nat) (c : Code) (t : T) (h : AH) : Res Out :=
  match c with
  | .skip | .label _ => .ret (.normal, t, h)
  | .region _ ops draw =>
    if draw then
      if drawOk ops.toList then (aopsD E r N ops.toList (masks ops.toList []) 0 ops.toList t h).bind fun x => .ret (.normal, x.1, x.2) else .fail
    else (aopsGo E r N ops.toList ops.toList t h).bind fun x => .ret (.normal, x.1, x.2)
  | .seq a b => (r N a t h).bind fun
    | (.normal, t', h') => r N b t' h'
    | x => .ret x
  | .cond x a b => match ev t x with
    | some (.bool true) => r N a t h
    | some (.bool false) => r N b t h
    | _ => .fail
  | .block id c => (r N c t h).bind fun
    | (.exit id', t', h') => if id' = id then .ret (.normal, t', h') else .ret (.exit id', t', h')
    | x => .ret x
  | .loop c => aloop r N c fuel t h
  | .exit id => .ret (.exit id, t, h)
  | .goto l => .ret (.goto l, t, h)
  | .ret => .ret (.ret, t, h)
  | .scope c => ascope r N c fuel c t h
  | .rangeFunc .. | .refuse _ => .fail

def aexec (E : Env) : Nat → Rec
  | 0 => fun _ _ _ _ => .fail
  | n + 1 => fun N c t h => abody E n (aexec E n) N c t h

end Go.AM
