/-
  AM, part 37: what stays, and forms of states at loops' heads.
-/
import Derived.Test.YtelcedajmnblbaaAm36
set_option linter.unusedVariables false
set_option linter.unusedSimpArgs false
namespace Go.AM

/-! ### expressions over letters below a number -/
def X.upto (n : Nat) : X → Bool
  | .v m => Nat.blt m n
  | .i _ | .b _ | .s _ | .nil => true
  | .wrap _ x | .not x | .len x | .get x _ | .call _ x | .pre _ x | .co _ x => x.upto n
  | .add x y | .sub x y | .mul x y | .quo x y | .rem x y | .lt x y | .le x y | .eq x y | .eqb x y | .and x y | .cons x y | .at x y | .cat x y | .reps x y => x.upto n && y.upto n
  | .ite c x y | .seg c x y | .set c x y => c.upto n && (x.upto n && y.upto n)

theorem X.upto_den {C : FuncId → Option Con} {ρ ρ' : Nat → D} {n : Nat} (h : ∀ i, i < n → ρ' i = ρ i) : ∀ {x : X}, x.upto n = true → x.den C ρ' = x.den C ρ := by
  intro x
  induction x <;> intro hx <;> simp only [X.upto, Bool.and_eq_true] at hx <;> simp only [X.den]
  case v m => exact h m (by simpa using hx)
  all_goals simp_all

structure Agree (lo nb : Nat) (g g' : Sg) : Prop where
  C : g'.C = g.C
  ρ : ∀ i, i < lo → g'.ρ i = g.ρ i
  u : ∀ d, d < lo → g'.u d = g.u d
  σ : ∀ b, b < nb → g'.σ b = g.σ b

theorem Agree.d {lo nb : Nat} {g g' : Sg} (h : Agree lo nb g g') {x : X} (hx : x.upto lo = true) : g'.d x = g.d x := by
  unfold Sg.d
  rw [h.C]
  exact X.upto_den h.ρ hx
theorem Agree.I {lo nb : Nat} {g g' : Sg} (h : Agree lo nb g g') {x : X} (hx : x.upto lo = true) : g'.I x = g.I x := by unfold Sg.I; rw [h.d hx]
theorem Agree.N {lo nb : Nat} {g g' : Sg} (h : Agree lo nb g g') {x : X} (hx : x.upto lo = true) : g'.N x = g.N x := by unfold Sg.N; rw [h.I hx]
theorem Agree.B {lo nb : Nat} {g g' : Sg} (h : Agree lo nb g g') {x : X} (hx : x.upto lo = true) : g'.B x = g.B x := by unfold Sg.B; rw [h.d hx]
theorem Agree.L {lo nb : Nat} {g g' : Sg} (h : Agree lo nb g g') {x : X} (hx : x.upto lo = true) : g'.L x = g.L x := by unfold Sg.L; rw [h.d hx]

def S0.upto (lo nb : Nat) : S0 → Bool
  | .sc _ x => x.upto lo
  | .cst _ => true
  | .ptr b _ i _ => Nat.blt b nb && i.upto lo
  | .sl b _ i l c => Nat.blt b nb && (i.upto lo && (l.upto lo && c.upto lo))
def S1.upto (lo nb : Nat) : S1 → Bool
  | .one s => s.upto lo nb
  | .agg l => l.all (S0.upto lo nb)
  | .clo _ a b => a.all (S0.upto lo nb) && b.all (S0.upto lo nb)
def S2.upto (lo nb : Nat) : S2 → Bool
  | .one s => s.upto lo nb
  | .tup l => l.all (S1.upto lo nb)
  | .unk d _ => Nat.blt d lo
def SB.upto (lo nb : Nat) : SB → Bool
  | .dead => true
  | .cells c _ _ _ => c.all (S0.upto lo nb)
  | .row x _ _ _ => x.upto lo

theorem blt_iff {a b : Nat} : Nat.blt a b = true ↔ a < b := by simp [Nat.blt]; omega

section
variable {lo nb : Nat} {g g' : Sg} (h : Agree lo nb g g')
include h
theorem S0.upto_den {s : S0} (hs : s.upto lo nb = true) : s.den g' = s.den g := by
  cases s <;> simp only [S0.upto, Bool.and_eq_true] at hs <;> simp only [S0.den]
  · rw [h.d hs]
  · rw [h.σ _ (blt_iff.1 hs.1), h.N hs.2]
  · rw [h.σ _ (blt_iff.1 hs.1), h.N hs.2.1, h.N hs.2.2.1, h.N hs.2.2.2]
theorem dens_upto {l : List S0} (hl : l.all (S0.upto lo nb) = true) : dens g' l = dens g l :=
  List.map_congr_left fun s hs => S0.upto_den h (List.all_eq_true.1 hl s hs)
theorem S1.upto_den {s : S1} (hs : s.upto lo nb = true) : s.den g' = s.den g := by
  cases s <;> simp only [S1.upto, Bool.and_eq_true] at hs <;> simp only [S1.den]
  · exact S0.upto_den h hs
  · rw [dens_upto h hs]
  · rw [dens_upto h hs.1, dens_upto h hs.2]
theorem S2.upto_den {s : S2} (hs : s.upto lo nb = true) : s.den g' = s.den g := by
  cases s <;> simp only [S2.upto] at hs <;> simp only [S2.den]
  · exact S1.upto_den h hs
  · rw [List.map_congr_left fun s hs' => S1.upto_den h (List.all_eq_true.1 hs s hs')]
  · rw [h.u _ (blt_iff.1 hs)]
theorem SB.upto_den {s : SB} (hs : s.upto lo nb = true) : s.den g' = s.den g := by
  cases s <;> simp only [SB.upto] at hs <;> simp only [SB.den]
  · rw [dens_upto h hs]
  · rw [h.L hs]
end

/-! ### the same -/
def S0.same : S0 → S0 → Bool
  | .sc k x, .sc k' x' => decide (k = k') && x.same x'
  | .cst c, .cst c' => decide (c = c')
  | .ptr b es i o, .ptr b' es' i' o' => Nat.beq b b' && (Nat.beq es es' && (i.same i' && Nat.beq o o'))
  | .sl b es i l c, .sl b' es' i' l' c' => Nat.beq b b' && (Nat.beq es es' && (i.same i' && (l.same l' && c.same c')))
  | _, _ => false
def sameL {α : Type} (f : α → α → Bool) : List α → List α → Bool
  | [], [] => true
  | a :: as, b :: bs => f a b && sameL f as bs
  | _, _ => false
def S1.same : S1 → S1 → Bool
  | .one a, .one b => a.same b
  | .agg a, .agg b => sameL S0.same a b
  | .clo f a b, .clo f' a' b' => Nat.beq f f' && (sameL S0.same a a' && sameL S0.same b b')
  | _, _ => false
def S2.same : S2 → S2 → Bool
  | .one a, .one b => a.same b
  | .tup a, .tup b => sameL S1.same a b
  | .unk d n, .unk d' n' => Nat.beq d d' && Nat.beq n n'
  | _, _ => false
def SB.same : SB → SB → Bool
  | .dead, .dead => true
  | .cells c es wr ex, .cells c' es' wr' ex' => sameL S0.same c c' && (Nat.beq es es' && (wr == wr' && ex == ex'))
  | .row x ks wr ex, .row x' ks' wr' ex' => x.same x' && (decide (ks = ks') && (wr == wr' && ex == ex'))
  | _, _ => false

theorem nbeq {a b : Nat} (h : Nat.beq a b = true) : a = b := Nat.eq_of_beq_eq_true h
theorem S0.same_eq {a b : S0} (h : a.same b = true) : a = b := by
  unfold S0.same at h
  split at h
  · simp only [Bool.and_eq_true, decide_eq_true_eq] at h; rw [h.1, X.same_eq h.2]
  · simp only [decide_eq_true_eq] at h; rw [h]
  · simp only [Bool.and_eq_true] at h
    obtain ⟨h1, h2, h3, h4⟩ := h
    rw [nbeq h1, nbeq h2, X.same_eq h3, nbeq h4]
  · simp only [Bool.and_eq_true] at h
    obtain ⟨h1, h2, h3, h4, h5⟩ := h
    rw [nbeq h1, nbeq h2, X.same_eq h3, X.same_eq h4, X.same_eq h5]
  · cases h
theorem sameL_eq {α : Type} {f : α → α → Bool} (hf : ∀ a b, f a b = true → a = b) : ∀ {l l' : List α}, sameL f l l' = true → l = l'
  | [], [], _ => rfl
  | a :: l, b :: l', h => by
    simp only [sameL, Bool.and_eq_true] at h
    rw [hf a b h.1, sameL_eq hf h.2]
  | [], _ :: _, h => by cases h
  | _ :: _, [], h => by cases h
theorem S1.same_eq {a b : S1} (h : a.same b = true) : a = b := by
  unfold S1.same at h
  split at h
  · rw [S0.same_eq h]
  · rw [sameL_eq (fun _ _ => S0.same_eq) h]
  · simp only [Bool.and_eq_true] at h
    rw [nbeq h.1, sameL_eq (fun _ _ => S0.same_eq) h.2.1, sameL_eq (fun _ _ => S0.same_eq) h.2.2]
  · cases h
theorem S2.same_eq {a b : S2} (h : a.same b = true) : a = b := by
  unfold S2.same at h
  split at h
  · rw [S1.same_eq h]
  · rw [sameL_eq (fun _ _ => S1.same_eq) h]
  · simp only [Bool.and_eq_true] at h
    rw [nbeq h.1, nbeq h.2]
  · cases h
theorem SB.same_eq {a b : SB} (h : a.same b = true) : a = b := by
  unfold SB.same at h
  split at h
  · rfl
  · simp only [Bool.and_eq_true, beq_iff_eq] at h
    obtain ⟨h1, h2, rfl, rfl⟩ := h
    rw [sameL_eq (fun _ _ => S0.same_eq) h1, nbeq h2]
  · simp only [Bool.and_eq_true, beq_iff_eq, decide_eq_true_eq] at h
    obtain ⟨h1, rfl, rfl, rfl⟩ := h
    rw [X.same_eq h1]
  · cases h

/-! ### a form of states -/
inductive Slot where
  | same | drop
  | var (k : K) (n : Nat)
  | agg (ks : List K) (n : Nat)
  | row (j : Nat)

/-- a new row of the form: its elements, its flags, its letter -/
structure NRow where
  ks : List K
  wr : Bool
  ex : Bool
  n : Nat

/-- slots: temporaries; rows: blocks that are rows, with letters; cells: blocks of cells; dead: blocks that are forgotten; news: rows of the form's own -/
structure Cut where
  key : Nat
  lo : Nat
  cnt : Nat
  slots : List (Nat × Slot) := []
  rows : List (Nat × Nat) := []
  cells : List (Nat × List Slot) := []
  dead : List Nat := []
  news : List NRow := []

def newRow (cu : Cut) (n0 j : Nat) : S0 :=
  match cu.news[j]? with
  | some r => .sl (n0 + j) r.ks.length (.i 0) (.len (.v r.n)) (.len (.v r.n))
  | none => .cst .undef

/-- what the form holds in a temporary -/
def patSlot (cu : Cut) (n0 i : Nat) (v : S2) : Slot → S2
  | .same => v
  | .drop => .unk cu.lo i
  | .var k n => s0 (.sc k (.v n))
  | .agg ks n => .one (.agg (comps (.v n) ks 0))
  | .row j => s0 (newRow cu n0 j)

def patCell (cu : Cut) (n0 : Nat) (v : S0) : Slot → S0
  | .var k n => .sc k (.v n)
  | .row j => newRow cu n0 j
  | _ => v

/-- how a temporary is taken -/
def slotOf (cu : Cut) (W : List Nat) (n0 : Nat) (τ : TS) (i : Nat) : Slot :=
  match cu.slots.lookup i with
  | some s => s
  | none => if W.contains i then .drop else if (τ i).upto cu.lo n0 then .same else .drop

inductive BCls where
  | dead | same
  | row (n : Nat)
  | cells (ss : List Slot)

def bclsOf (cu : Cut) (n0 : Nat) (k : SB) (b : Nat) : BCls :=
  if cu.dead.contains b then .dead else
  match cu.rows.lookup b, cu.cells.lookup b with
  | some n, _ => .row n
  | _, some ss => .cells ss
  | _, _ => if k.upto cu.lo n0 then .same else .dead

def zipCells (cu : Cut) (n0 : Nat) : List S0 → List Slot → List S0
  | v :: vs, s :: ss => patCell cu n0 v s :: zipCells cu n0 vs ss
  | vs, [] => vs
  | [], _ => []

def patBlk (cu : Cut) (n0 : Nat) (k : SB) : BCls → SB
  | .dead => .dead
  | .same => k
  | .row n => match k with
    | .row _ ks wr ex => .row (.v n) ks wr ex
    | _ => .dead
  | .cells ss => match k with
    | .cells l es wr ex => .cells (zipCells cu n0 l ss) es wr ex
    | _ => .dead

def patT (cu : Cut) (W : List Nat) (N n0 : Nat) (τ : TS) : TS := fun i =>
  if i < N then patSlot cu n0 i (τ i) (slotOf cu W n0 τ i) else .unk cu.lo i

def patH (cu : Cut) (H : SH) : SH :=
  ⟨H.n + cu.news.length, 0, fun b =>
    if b < H.n then patBlk cu H.n (H.b b) (bclsOf cu H.n (H.b b) b)
    else match cu.news[b - H.n]? with
      | some r => .row (.v r.n) r.ks r.wr r.ex
      | none => .dead⟩

/-! ### a state that has the form -/
/-- conditions, letters, blocks of the form's rows -/
abbrev Inst := List X × List (Nat × X) × List (Nat × Nat)
def Inst.nil : Inst := ([], [], [])
def Inst.app (a b : Inst) : Inst := (a.1 ++ b.1, a.2.1 ++ b.2.1, a.2.2 ++ b.2.2)

def mRow (cu : Cut) (H : SH) (j : Nat) (s : S0) : Option Inst :=
  match cu.news[j]?, s with
  | some r, .sl b es i len cap =>
    if es = r.ks.length ∧ b < H.n then
      match H.b b with
      | .row x ks wr ex => if ks = r.ks ∧ wr = r.wr ∧ ex = r.ex then some ([xeq i (.i 0), xeq len (xlen x), xeq cap (xlen x)], [(r.n, x)], [(j, b)]) else none
      | .cells c ces wr ex => match len with
        | .i z => if ces = r.ks.length ∧ wr = r.wr ∧ ex = r.ex ∧ 0 ≤ z then
            (unkR r.ks z.toNat c).map fun x => ([xeq i (.i 0), xeq cap (.i z)], [(r.n, x)], [(j, b)])
          else none
        | _ => none
      | .dead => none
    else none
  | _, _ => none

def mSlot (cu : Cut) (n0 : Nat) (H : SH) (p v : S2) : Slot → Option Inst
  | .same => if p.same v && p.upto cu.lo n0 then some Inst.nil else none
  | .drop => some Inst.nil
  | .var k n => match v with
    | .one (.one (.sc k' x)) => if k = k' then some ([], [(n, x)], []) else none
    | _ => none
  | .agg ks n => match v with
    | .one (.agg l) => (unk ks l).map fun x => ([], [(n, x)], [])
    | _ => none
  | .row j => match v with
    | .one (.one s) => mRow cu H j s
    | _ => none

def mCell (cu : Cut) (n0 : Nat) (H : SH) (p v : S0) : Slot → Option Inst
  | .var k n => match v with
    | .sc k' x => if k = k' then some ([], [(n, x)], []) else none
    | _ => none
  | .row j => mRow cu H j v
  | _ => if p.same v && p.upto cu.lo n0 then some Inst.nil else none

def mCells (cu : Cut) (n0 : Nat) (H : SH) : List S0 → List S0 → List Slot → Option Inst
  | p :: ps, v :: vs, s :: ss => match mCell cu n0 H p v s, mCells cu n0 H ps vs ss with
    | some a, some b => some (a.app b)
    | _, _ => none
  | p :: ps, v :: vs, [] => match mCell cu n0 H p v .same, mCells cu n0 H ps vs [] with
    | some a, some b => some (a.app b)
    | _, _ => none
  | [], [], _ => some Inst.nil
  | _, _, _ => none

def mBlk (cu : Cut) (n0 : Nat) (H : SH) (p v : SB) : BCls → Option Inst
  | .dead => some Inst.nil
  | .same => if p.same v && p.upto cu.lo n0 then some Inst.nil else none
  | .row n => match p, v with
    | .row _ ks wr ex, .row x ks' wr' ex' => if ks = ks' ∧ wr = wr' ∧ ex = ex' then some ([], [(n, x)], []) else none
    | _, _ => none
  | .cells ss => match p, v with
    | .cells l es wr ex, .cells l' es' wr' ex' => if es = es' ∧ wr = wr' ∧ ex = ex' then mCells cu n0 H l l' ss else none
    | _, _ => none

def mAll (f : Nat → Option Inst) : Nat → Option Inst
  | 0 => some Inst.nil
  | n + 1 => match mAll f n, f n with
    | some a, some b => some (a.app b)
    | _, _ => none

/-- each row of the form has one block, of its own -/
def okRows (n0 : Nat) (Hp : SH) (bm : List (Nat × Nat)) (m : Nat) : Bool :=
  (List.range m).all (fun j => (bm.lookup j).isSome) &&
  bm.all (fun p => bm.lookup p.1 == some p.2 && (Nat.ble n0 p.2 || !(Hp.b p.2).live)) &&
  (List.range m).all fun j => (List.range m).all fun k => j == k || bm.lookup j != bm.lookup k

/-- letters: all of the form's, each once -/
def okVars (lo cnt : Nat) (θ : List (Nat × X)) : Bool :=
  θ.all fun p => Nat.ble lo p.1 && Nat.blt p.1 (lo + cnt) && (match θ.lookup p.1 with | some y => y.same p.2 | none => false)

/-- the form (of a state τ0, H0) at a state -/
def instOf (cu : Cut) (W : List Nat) (N : Nat) (τ0 : TS) (H0 : SH) (τ : TS) (H : SH) : Option Inst :=
  let Hp := patH cu H0
  match mAll (fun i => mSlot cu H0.n H (patT cu W N H0.n τ0 i) (τ i) (slotOf cu W H0.n τ0 i)) N,
        mAll (fun b => mBlk cu H0.n H (Hp.b b) (H.b b) (bclsOf cu H0.n (H0.b b) b)) H0.n with
  | some a, some b =>
    let r := a.app b
    if Nat.ble H0.n H.n && Nat.beq H.lim 0 && okRows H0.n Hp r.2.2 cu.news.length && okVars cu.lo cu.cnt r.2.1 then some r else none
  | _, _ => none

end Go.AM
