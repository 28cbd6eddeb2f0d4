/-
  AM, part 17: symbolic values, and what they stand for.
-/
import Derived.Test.YtelcedajmnblbaaAm16
set_option linter.unusedVariables false
set_option linter.unusedSimpArgs false
namespace Go.AM

/-- what a symbolic expression stands for -/
inductive D where
  | i (n : Int)
  | b (x : Bool)
  | s (x : ByteArray)
  | l (xs : List D)
instance : Inhabited D := ⟨.i 0⟩
def D.toI : D → Int | .i n => n | _ => 0
def D.toB : D → Bool | .b x => x | _ => false
def D.toS : D → ByteArray | .s x => x | _ => ByteArray.empty
def D.toL : D → List D | .l xs => xs | _ => []
@[simp] theorem D.toI_i (n : Int) : (D.i n).toI = n := rfl
@[simp] theorem D.toB_b (n : Bool) : (D.b n).toB = n := rfl
@[simp] theorem D.toS_s (n : ByteArray) : (D.s n).toS = n := rfl
@[simp] theorem D.toL_l (n : List D) : (D.l n).toL = n := rfl

inductive K where
  | int (k : IntKind) | bool | str
  deriving DecidableEq

/-- the shapes of what goes in and comes out of a function -/
inductive Sh where
  | k (k : K)
  | agg (ks : List K)
  | row (ks : List K)
  deriving DecidableEq

/-- with its types enforced -/
def normK : K → D → D
  | .int _, d => .i d.toI
  | .bool, d => .b d.toB
  | .str, d => .s d.toS
def normL : List K → List D → List D
  | [], _ => []
  | k :: ks, ds => normK k (ds.headD default) :: normL ks ds.tail
def Sh.norm : Sh → D → D
  | .k kd, d => normK kd d
  | .agg ks, d => .l (normL ks d.toL)
  | .row ks, d => .l (d.toL.map fun e => .l (normL ks e.toL))

inductive X where
  | i (n : Int) | b (x : Bool) | s (x : ByteArray) | v (n : Nat)
  | wrap (k : IntKind) (x : X)
  | add (x y : X) | sub (x y : X) | mul (x y : X) | quo (x y : X) | rem (x y : X)
  | lt (x y : X) | le (x y : X) | eq (x y : X) | eqb (x y : X)
  | not (x : X) | and (x y : X) | ite (c x y : X)
  | nil | cons (x y : X)
  | at (r i : X) | get (x : X) (n : Nat) | len (r : X)
  | seg (r s n : X) | cat (r q : X) | set (r i x : X) | reps (n x : X)
  | call (g : Nat) (x : X) | pre (g : Nat) (x : X) | co (s : Sh) (x : X)

/-- tot: nothing is asked of what goes in -/
structure Con where
  ins : List Sh
  outs : List Sh
  pre : List D → Bool
  f : List D → List D
  tot : Bool := false
def Con.ok (c : Con) (ds : List D) : Bool := c.tot || c.pre ds

/-- the environment of the symbolic machine -/
structure SE where
  E : Env
  con : FuncId → Option Con
  own : FuncId → Bool

def setL {α : Type} (l : List α) (i : Nat) (x : α) : List α := l.set i x

def X.den (C : FuncId → Option Con) (ρ : Nat → D) : X → D
  | .i n => .i n
  | .b y => .b y
  | .s y => .s y
  | .v n => ρ n
  | .wrap k x => .i (k.wrap (x.den C ρ).toI)
  | .add x y => .i ((x.den C ρ).toI + (y.den C ρ).toI)
  | .sub x y => .i ((x.den C ρ).toI - (y.den C ρ).toI)
  | .mul x y => .i ((x.den C ρ).toI * (y.den C ρ).toI)
  | .quo x y => .i ((x.den C ρ).toI.tdiv (y.den C ρ).toI)
  | .rem x y => .i ((x.den C ρ).toI.tmod (y.den C ρ).toI)
  | .lt x y => .b (decide ((x.den C ρ).toI < (y.den C ρ).toI))
  | .le x y => .b (decide ((x.den C ρ).toI ≤ (y.den C ρ).toI))
  | .eq x y => .b ((x.den C ρ).toI == (y.den C ρ).toI)
  | .eqb x y => .b ((x.den C ρ).toB == (y.den C ρ).toB)
  | .not x => .b (!(x.den C ρ).toB)
  | .and x y => .b ((x.den C ρ).toB && (y.den C ρ).toB)
  | .ite c x y => if (c.den C ρ).toB then x.den C ρ else y.den C ρ
  | .nil => .l []
  | .cons x y => .l (x.den C ρ :: (y.den C ρ).toL)
  | .at r j => ((r.den C ρ).toL[(j.den C ρ).toI.toNat]?).getD default
  | .get x n => ((x.den C ρ).toL[n]?).getD default
  | .len r => .i (r.den C ρ).toL.length
  | .seg r j n => .l (((r.den C ρ).toL.drop (j.den C ρ).toI.toNat).take (n.den C ρ).toI.toNat)
  | .cat r q => .l ((r.den C ρ).toL ++ (q.den C ρ).toL)
  | .set r j x => .l (setL (r.den C ρ).toL (j.den C ρ).toI.toNat (x.den C ρ))
  | .reps n x => .l (List.replicate (n.den C ρ).toI.toNat (x.den C ρ))
  | .co h x => h.norm (x.den C ρ)
  | .call g x => match C g with
    | some c => .l (c.f (x.den C ρ).toL)
    | none => .i 0
  | .pre g x => match C g with
    | some c => .b (c.pre (x.den C ρ).toL)
    | none => .b false

/-- the same expression? -/
def X.same : X → X → Bool
  | .i n, .i m => decide (n = m)
  | .b n, .b m => n == m
  | .v n, .v m => Nat.beq n m
  | .wrap k x, .wrap k' x' => decide (k = k') && x.same x'
  | .add x y, .add x' y' | .sub x y, .sub x' y' | .mul x y, .mul x' y' | .quo x y, .quo x' y' | .rem x y, .rem x' y' | .lt x y, .lt x' y' | .le x y, .le x' y' | .eq x y, .eq x' y' | .eqb x y, .eqb x' y'
  | .and x y, .and x' y' | .cons x y, .cons x' y' | .at x y, .at x' y' | .cat x y, .cat x' y' | .reps x y, .reps x' y' => x.same x' && y.same y'
  | .not x, .not x' | .len x, .len x' => x.same x'
  | .ite c x y, .ite c' x' y' | .seg c x y, .seg c' x' y' | .set c x y, .set c' x' y' => c.same c' && (x.same x' && y.same y')
  | .nil, .nil => true
  | .get x n, .get x' n' => Nat.beq n n' && x.same x'
  | .co h x, .co h' x' => decide (h = h') && x.same x'
  | .call g x, .call g' x' | .pre g x, .pre g' x' => Nat.beq g g' && x.same x'
  | _, _ => false

theorem X.same_eq {x y : X} (h : x.same y = true) : x = y := by
  induction x, y using X.same.induct <;> simp_all [X.same]

/-! ### with what is known folded in -/
def xwrap (k : IntKind) : X → X
  | .i n => .i (k.wrap n)
  | x => .wrap k x
def xadd : X → X → X
  | .i a, .i b => .i (a + b)
  | x, y => match x, y with
    | .i a, y => if a = 0 then y else .add (.i a) y     -- only where y is a number: see xadd_toI
    | x, .i b => if b = 0 then x else .add x (.i b)
    | x, y => .add x y
def xsub : X → X → X
  | .i a, .i b => .i (a - b)
  | x, y => if x.same y then .i 0 else match y with
    | .i b => if b = 0 then x else .sub x (.i b)
    | y => .sub x y
def xmul : X → X → X
  | .i a, .i b => .i (a * b)
  | x, y => .mul x y
def xquo : X → X → X
  | .i a, .i b => .i (a.tdiv b)
  | x, y => .quo x y
def xrem : X → X → X
  | .i a, .i b => .i (a.tmod b)
  | x, y => .rem x y
def xlt : X → X → X
  | .i a, .i b => .b (decide (a < b))
  | x, y => if x.same y then .b false else .lt x y
def xle : X → X → X
  | .i a, .i b => .b (decide (a ≤ b))
  | x, y => if x.same y then .b true else
    match x, y with
    | .i a, .len r => if a ≤ 0 then .b true else .le (.i a) (.len r)
    | x, y => .le x y
def xeq : X → X → X
  | .i a, .i b => .b (decide (a = b))
  | x, y => if x.same y then .b true else .eq x y
def xeqb : X → X → X
  | .b a, .b b => .b (a == b)
  | .b true, y => y
  | x, .b true => x
  | x, y => .eqb x y
def xnot : X → X
  | .b a => .b (!a)
  | .not x => x
  | x => .not x
def xand : X → X → X
  | .b true, y => y
  | .b false, _ => .b false
  | x, .b true => x
  | _, .b false => .b false
  | x, y => .and x y
def xite : X → X → X → X
  | .b true, x, _ => x
  | .b false, _, y => y
  | c, x, y => .ite c x y
def xlen : X → X
  | .nil => .i 0
  | .cons x y => match xlen y with
    | .i n => .i (n + 1)
    | _ => .len (.cons x y)
  | .set r i x => .len r |> fun e => if false then .len (.set r i x) else e
  | x => .len x
def xget : X → Nat → X
  | .cons x _, 0 => x
  | .cons _ y, n + 1 => xget y n
  | x, n => .get x n
def xat : X → X → X
  | .cons x y, .i n => if 0 ≤ n then xget (.cons x y) n.toNat else .at (.cons x y) (.i n)
  | r, i => .at r i
def xseg : X → X → X → X
  | r, .i s, n => if s = 0 ∧ n.same (xlen r) = true then r else .seg r (.i s) n
  | r, s, n => .seg r s n
def xcat : X → X → X
  | .nil, q => q
  | .cons x r, q => .cons x (xcat r q)
  | r, q => .cat r q

variable {C : FuncId → Option Con} {ρ : Nat → D}
@[simp] theorem xwrap_den (k : IntKind) (x : X) : ((xwrap k x).den C ρ).toI = k.wrap (x.den C ρ).toI := by cases x <;> rfl
@[simp] theorem xadd_den (x y : X) : ((xadd x y).den C ρ).toI = (x.den C ρ).toI + (y.den C ρ).toI := by
  unfold xadd
  split
  · rfl
  · split
    · split
      · rename_i h; simp [X.den, h]
      · rfl
    · split
      · rename_i h; simp [X.den, h]
      · rfl
    · rfl
@[simp] theorem xsub_den (x y : X) : ((xsub x y).den C ρ).toI = (x.den C ρ).toI - (y.den C ρ).toI := by
  unfold xsub
  split
  · rfl
  · split
    · rename_i h; rw [X.same_eq h]; simp [X.den]
    · split
      · split
        · rename_i h; simp [X.den, h]
        · rfl
      · rfl
@[simp] theorem xmul_den (x y : X) : ((xmul x y).den C ρ).toI = (x.den C ρ).toI * (y.den C ρ).toI := by
  unfold xmul
  split <;> rfl
@[simp] theorem xquo_den (x y : X) : ((xquo x y).den C ρ).toI = (x.den C ρ).toI.tdiv (y.den C ρ).toI := by
  unfold xquo
  split <;> rfl
@[simp] theorem xrem_den (x y : X) : ((xrem x y).den C ρ).toI = (x.den C ρ).toI.tmod (y.den C ρ).toI := by
  unfold xrem
  split <;> rfl
@[simp] theorem xlt_den (x y : X) : ((xlt x y).den C ρ).toB = decide ((x.den C ρ).toI < (y.den C ρ).toI) := by
  unfold xlt
  split
  · rfl
  · split
    · rename_i h; rw [X.same_eq h]; simp [X.den]
    · rfl
@[simp] theorem xle_den (x y : X) : ((xle x y).den C ρ).toB = decide ((x.den C ρ).toI ≤ (y.den C ρ).toI) := by
  unfold xle
  split
  · rfl
  · split
    · rename_i h; rw [X.same_eq h]; simp [X.den]
    · split
      · split
        · rename_i h
          simp only [X.den, D.toB_b, D.toI_i]
          exact (decide_eq_true (Int.le_trans h (Int.natCast_nonneg _))).symm
        · rfl
      · rfl
@[simp] theorem xeq_den (x y : X) : ((xeq x y).den C ρ).toB = ((x.den C ρ).toI == (y.den C ρ).toI) := by
  unfold xeq
  split
  · rfl
  · split
    · rename_i h; rw [X.same_eq h]; simp [X.den]
    · rfl
@[simp] theorem xeqb_den (x y : X) : ((xeqb x y).den C ρ).toB = ((x.den C ρ).toB == (y.den C ρ).toB) := by
  unfold xeqb
  split <;> simp [X.den]
@[simp] theorem xnot_den (x : X) : ((xnot x).den C ρ).toB = !(x.den C ρ).toB := by
  unfold xnot
  split <;> simp [X.den]
@[simp] theorem xand_den (x y : X) : ((xand x y).den C ρ).toB = ((x.den C ρ).toB && (y.den C ρ).toB) := by
  unfold xand
  split <;> simp [X.den]
@[simp] theorem xite_den (c x y : X) : (xite c x y).den C ρ = if (c.den C ρ).toB then x.den C ρ else y.den C ρ := by
  unfold xite
  split <;> simp [X.den]
theorem xlen_den : ∀ (x : X), (xlen x).den C ρ = .i (x.den C ρ).toL.length
  | .nil => rfl
  | .cons x y => by
    have := xlen_den y
    unfold xlen
    split
    · rename_i n h
      rw [h] at this
      simp only [X.den, D.i.injEq] at this
      simp [X.den, this]
    · rfl
  | .set r i x => by simp [xlen, X.den, setL]
  | .i _ | .b _ | .s _ | .v _ | .wrap _ _ | .add _ _ | .sub _ _ | .mul _ _ | .quo _ _ | .rem _ _ | .lt _ _ | .le _ _ | .eq _ _ | .eqb _ _ | .not _ | .and _ _ | .ite _ _ _ | .at _ _ | .get _ _ | .len _
  | .seg _ _ _ | .cat _ _ | .reps _ _ | .call _ _ | .pre _ _ | .co _ _ => rfl
@[simp] theorem xget_den : ∀ (x : X) (n : Nat), (xget x n).den C ρ = ((x.den C ρ).toL[n]?).getD default
  | .cons x _, 0 => by simp [xget, X.den]
  | .cons x y, n + 1 => by simp [xget, xget_den y n, X.den]
  | .nil, n | .i _, n | .b _, n | .s _, n | .v _, n | .wrap _ _, n | .add _ _, n | .sub _ _, n | .mul _ _, n | .quo _ _, n | .rem _ _, n | .lt _ _, n | .le _ _, n | .eq _ _, n | .eqb _ _, n | .not _, n | .and _ _, n
  | .ite _ _ _, n | .at _ _, n | .get _ _, n | .len _, n | .seg _ _ _, n | .cat _ _, n | .set _ _ _, n | .reps _ _, n | .call _ _, n | .pre _ _, n | .co _ _, n => by cases n <;> rfl
@[simp] theorem xat_den (r i : X) : (xat r i).den C ρ = ((r.den C ρ).toL[(i.den C ρ).toI.toNat]?).getD default := by
  unfold xat
  split
  · split
    · rw [xget_den]; rfl
    · rfl
  · rfl
theorem xseg_den (r s n : X) : ((xseg r s n).den C ρ).toL = ((r.den C ρ).toL.drop (s.den C ρ).toI.toNat).take (n.den C ρ).toI.toNat := by
  unfold xseg
  split
  · split
    · rename_i h
      obtain ⟨rfl, h2⟩ := h
      rw [X.same_eq h2, xlen_den]
      simp [X.den]
    · rfl
  · rfl
theorem xcat_den : ∀ (r q : X), ((xcat r q).den C ρ).toL = (r.den C ρ).toL ++ (q.den C ρ).toL
  | .nil, q => by simp [xcat, X.den]
  | .cons x r, q => by simp [xcat, X.den, xcat_den r q]
  | .i _, q | .b _, q | .s _, q | .v _, q | .wrap _ _, q | .add _ _, q | .sub _ _, q | .mul _ _, q | .quo _ _, q | .rem _ _, q | .lt _ _, q | .le _ _, q | .eq _ _, q | .eqb _ _, q | .not _, q | .and _ _, q
  | .ite _ _ _, q | .at _ _, q | .get _ _, q | .len _, q | .seg _ _ _, q | .cat _ _, q | .set _ _ _, q | .reps _ _, q | .call _ _, q | .pre _ _, q | .co _ _, q => by simp [xcat, X.den]

end Go.AM
