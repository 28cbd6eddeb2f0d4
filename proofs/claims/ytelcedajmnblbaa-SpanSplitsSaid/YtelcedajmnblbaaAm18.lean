/-
  AM, part 18: symbolic values, rows, memory.
-/
import Derived.Test.YtelcedajmnblbaaAm17
set_option linter.unusedVariables false
set_option linter.unusedSimpArgs false
namespace Go.AM

inductive Cst where
  | nilPtr | nilSlice | nilMap | nilChan | nilFunc | nilIface | undef
  | float (k : FloatKind) (n : Nat)
  deriving DecidableEq

def Cst.val : Cst → Value
  | .nilPtr => .pointer none
  | .nilSlice => .slice none 0 0
  | .nilMap => .map none
  | .nilChan => .chan none
  | .nilFunc => .nilFunc
  | .nilIface => .nilIface
  | .undef => Go.undef
  | .float k n => .float k n

/-- a value of one cell -/
inductive S0 where
  | sc (k : K) (x : X)
  | cst (c : Cst)
  | ptr (b es : Nat) (i : X) (off : Nat)
  | sl (b es : Nat) (i len cap : X)

inductive S1 where
  | one (s : S0)
  | agg (l : List S0)
  | clo (f : FuncId) (first captured : List S0)

/-- unk: whatever it is -/
inductive S2 where
  | one (s : S1)
  | tup (l : List S1)
  | unk (d n : Nat)

inductive SB where
  | dead
  | cells (c : List S0) (es : Nat) (wr ex : Bool)
  | row (x : X) (ks : List K) (wr ex : Bool)

structure SH where
  n : Nat
  lim : Nat
  b : Nat → SB

abbrev TS := Nat → S2

/-- what the letters stand for -/
structure Sg where
  C : FuncId → Option Con
  ρ : Nat → D
  u : Nat → Nat → Value
  σ : Nat → Nat

def Sg.d (g : Sg) (x : X) : D := x.den g.C g.ρ
def Sg.I (g : Sg) (x : X) : Int := (g.d x).toI
def Sg.B (g : Sg) (x : X) : Bool := (g.d x).toB
def Sg.L (g : Sg) (x : X) : List D := (g.d x).toL
def Sg.N (g : Sg) (x : X) : Nat := (g.I x).toNat

def enc : K → D → Value
  | .int k, d => .int k d.toI
  | .bool, d => .bool d.toB
  | .str, d => .string d.toS

def encL : List K → List D → List Value
  | [], _ => []
  | k :: ks, ds => enc k (ds.headD default) :: encL ks ds.tail

def encR (ks : List K) (rs : List D) : List Value := rs.flatMap fun d => encL ks d.toL

def S0.den (g : Sg) : S0 → Value
  | .sc k x => enc k (g.d x)
  | .cst c => c.val
  | .ptr b es i off => .pointer (some ⟨g.σ b, g.N i * es + off, none⟩)
  | .sl b es i len cap => .slice (some ⟨g.σ b, g.N i * es, none⟩) (g.N len) (g.N cap)

def dens (g : Sg) (l : List S0) : List Value := l.map (S0.den g)

def S1.den (g : Sg) : S1 → Value
  | .one s => s.den g
  | .agg l => .agg (dens g l).toArray
  | .clo f a b => .func (.func f) (dens g a).toArray (dens g b).toArray

def S2.den (g : Sg) : S2 → Value
  | .one s => s.den g
  | .tup l => .tuple (l.map (S1.den g)).toArray
  | .unk d n => g.u d n

def SB.den (g : Sg) : SB → ABlk
  | .dead => .dead
  | .cells c es wr ex => .cells (dens g c) es wr ex
  | .row x ks wr ex => .cells (encR ks (g.L x)) ks.length wr ex

def SB.live : SB → Bool
  | .dead => false
  | _ => true

def SB.wr : SB → Bool
  | .cells _ _ wr _ => wr
  | .row _ _ wr _ => wr
  | .dead => false

structure SR (g : Sg) (H : SH) (h : AH) : Prop where
  next : ∀ k, g.σ (H.n + k) = h.n + k
  blk : ∀ b, b < H.n → (H.b b).live = true → h.b (g.σ b) = (H.b b).den g ∧ g.σ b < h.n
  inj : ∀ a b, a < H.n → b < H.n → (H.b a).wr = true → (H.b b).live = true → a ≠ b → g.σ a ≠ g.σ b
  lim : ∀ b, H.lim ≤ b → h.lim ≤ g.σ b

def SH.push (H : SH) (k : SB) : SH := ⟨H.n + 1, H.lim, fun i => if i = H.n then k else H.b i⟩
def SH.upd (H : SH) (b : Nat) (k : SB) : SH := ⟨H.n, H.lim, fun i => if i = b then k else H.b i⟩

theorem SB.wr_live {k : SB} (h : k.wr = true) : k.live = true := by cases k <;> first | rfl | cases h

theorem SR.push {g : Sg} {H : SH} {h : AH} (hr : SR g H h) (k : SB) : SR g (H.push k) (h.push (k.den g)) := by
  have hn := hr.next 0
  simp only [Nat.add_zero] at hn
  refine ⟨fun j => ?_, fun b hb hl => ?_, fun a b ha hb hw hl hne => ?_, hr.lim⟩
  · have := hr.next (j + 1)
    simp only [SH.push, AH.push]
    rw [show H.n + 1 + j = H.n + (j + 1) by omega, this]; omega
  · simp only [SH.push, AH.push] at *
    by_cases e : b = H.n
    · subst e
      simp [hn]
    · rw [if_neg e] at hl ⊢
      obtain ⟨h1, h2⟩ := hr.blk b (by omega) hl
      rw [if_neg (by omega)]
      exact ⟨h1, by omega⟩
  · simp only [SH.push] at *
    by_cases ea : a = H.n
    · subst ea
      rw [if_neg (fun e => hne e.symm)] at hl
      obtain ⟨_, h2⟩ := hr.blk b (by omega) hl
      omega
    · rw [if_neg ea] at hw
      by_cases eb : b = H.n
      · subst eb
        obtain ⟨_, h2⟩ := hr.blk a (by omega) (SB.wr_live hw)
        omega
      · rw [if_neg eb] at hl
        exact hr.inj a b (by omega) (by omega) hw hl hne

theorem SR.upd {g : Sg} {H : SH} {h : AH} (hr : SR g H h) {b : Nat} (hb : b < H.n) (hw : (H.b b).wr = true) (k : SB) : SR g (H.upd b k) (h.upd (g.σ b) (k.den g)) := by
  obtain ⟨_, hlt⟩ := hr.blk b hb (SB.wr_live hw)
  refine ⟨hr.next, fun a ha hl => ?_, fun a c ha hc hwa hl hne => ?_, hr.lim⟩
  · simp only [SH.upd, AH.upd] at *
    by_cases e : a = b
    · subst e; simp [hlt]
    · rw [if_neg e] at hl ⊢
      obtain ⟨h1, h2⟩ := hr.blk a ha hl
      rw [if_neg (fun e' => hr.inj b a hb ha hw hl (fun e'' => e e''.symm) e'.symm)]
      exact ⟨h1, h2⟩
  · simp only [SH.upd] at *
    by_cases ea : a = b
    · subst ea
      rw [if_neg (fun e => hne e.symm)] at hl
      exact hr.inj a c ha hc hw hl hne
    · rw [if_neg ea] at hwa
      by_cases ec : c = b
      · subst ec
        exact fun e => hr.inj c a hc ha hw (SB.wr_live hwa) (fun e' => hne e'.symm) e.symm
      · rw [if_neg ec] at hl
        exact hr.inj a c ha hc hwa hl hne

def TR (g : Sg) (τ : TS) (t : T) : Prop := ∀ i, t i = (τ i).den g

def TS.upd (τ : TS) (d : Nat) (v : S2) : TS := fun i => if i = d then v else τ i
def TS.put (N : Nat) (τ : TS) (d : Option Nat) (v : S2) : TS :=
  match d with
  | some d => if d < N then τ.upd d v else τ
  | none => τ

theorem TR.put {g : Sg} {τ : TS} {t : T} (h : TR g τ t) (N : Nat) (d : Option Nat) (v : S2) : TR g (τ.put N d v) (t.put N d (v.den g)) := by
  cases d with
  | none => exact h
  | some d =>
    intro i
    simp only [TS.put, T.put, T.upd]
    by_cases hd : d < N
    · simp only [hd, if_true, TS.upd, T.upd]
      split
      · rfl
      · exact h i
    · simp only [hd, if_false]
      exact h i

/-! ### constants -/
def ofC0 : Value → Option S0
  | .bool b => some (.sc .bool (.b b))
  | .int k n => some (.sc (.int k) (.i n))
  | .string s => some (.sc .str (.s s))
  | .float k n => some (.cst (.float k n))
  | .pointer none => some (.cst .nilPtr)
  | .slice none 0 0 => some (.cst .nilSlice)
  | .map none => some (.cst .nilMap)
  | .chan none => some (.cst .nilChan)
  | .nilFunc => some (.cst .nilFunc)
  | .nilIface => some (.cst .nilIface)
  | _ => none

theorem ofC0_den {v : Value} {s : S0} (h : ofC0 v = some s) (g : Sg) : s.den g = v ∧ scal v = true := by
  unfold ofC0 at h
  split at h <;> first | (cases h; done) | (obtain rfl := Option.some.inj h; exact ⟨rfl, rfl⟩)

def ofCs : List Value → Option (List S0)
  | [] => some []
  | v :: vs => match ofC0 v, ofCs vs with
    | some s, some l => some (s :: l)
    | _, _ => none

theorem ofCs_den : ∀ {vs : List Value} {l : List S0}, ofCs vs = some l → ∀ g, dens g l = vs ∧ vs.all scal = true
  | [], l, h, g => by simp only [ofCs, Option.some.injEq] at h; subst h; exact ⟨rfl, rfl⟩
  | v :: vs, l, h, g => by
    simp only [ofCs] at h
    split at h
    · rename_i s l' h1 h2
      obtain rfl := Option.some.inj h
      obtain ⟨a1, a2⟩ := ofC0_den h1 g
      obtain ⟨b1, b2⟩ := ofCs_den h2 g
      exact ⟨by simp only [dens, List.map_cons] at *; rw [a1, b1], by simp [a2, b2]⟩
    · cases h

def ofC (v : Value) : Option S1 :=
  match v with
  | .agg cs => (ofCs cs.toList).map .agg
  | v => (ofC0 v).map .one

theorem ofC_den {v : Value} {s : S1} (h : ofC v = some s) (g : Sg) : s.den g = v ∧ flat v = true := by
  unfold ofC at h
  split at h
  · rename_i cs
    obtain ⟨l, h1, rfl⟩ := Option.map_eq_some_iff.1 h
    obtain ⟨a, b⟩ := ofCs_den h1 g
    exact ⟨by simp only [S1.den, a], by simp only [flat]; exact b⟩
  · rename_i hne
    obtain ⟨s0, h1, rfl⟩ := Option.map_eq_some_iff.1 h
    obtain ⟨a, b⟩ := ofC0_den h1 g
    refine ⟨a, ?_⟩
    unfold flat
    split
    · rename_i cs; exact absurd rfl (hne cs)
    · exact b

def sev (τ : TS) : Operand → Option S2
  | .tmp i => some (τ i)
  | .const v => (ofC v).map .one
  | .global _ => none
  | .func f => some (.one (.clo f [] []))

theorem sev_sound {g : Sg} {τ : TS} {t : T} (ht : TR g τ t) {x : Operand} {s : S2} (h : sev τ x = some s) : ev t x = some (s.den g) := by
  cases x with
  | tmp i => simp only [sev, Option.some.injEq] at h; subst h; simp only [ev, ht i]
  | const v =>
    simp only [sev] at h
    obtain ⟨s1, h1, rfl⟩ := Option.map_eq_some_iff.1 h
    obtain ⟨a, b⟩ := ofC_den h1 g
    simp [ev, b, S2.den, a]
  | global _ => cases h
  | func f => simp only [sev, Option.some.injEq] at h; subst h; rfl

def sevs (τ : TS) : List Operand → Option (List S2)
  | [] => some []
  | x :: xs => match sev τ x, sevs τ xs with
    | some v, some vs => some (v :: vs)
    | _, _ => none

theorem sevs_sound {g : Sg} {τ : TS} {t : T} (ht : TR g τ t) : ∀ {xs : List Operand} {l : List S2}, sevs τ xs = some l → evs t xs = some (l.map (S2.den g))
  | [], l, h => by simp only [sevs, Option.some.injEq] at h; subst h; rfl
  | x :: xs, l, h => by
    simp only [sevs] at h
    split at h
    · rename_i v vs h1 h2
      obtain rfl := Option.some.inj h
      simp only [evs, sev_sound ht h1, sevs_sound ht h2, List.map_cons]
    · cases h

def sevp (τ : TS) : List (Nat × Operand) → Option (List (Nat × S2))
  | [] => some []
  | (i, x) :: xs => match sev τ x, sevp τ xs with
    | some v, some vs => some ((i, v) :: vs)
    | _, _ => none

theorem sevp_sound {g : Sg} {τ : TS} {t : T} (ht : TR g τ t) : ∀ {xs : List (Nat × Operand)} {l : List (Nat × S2)}, sevp τ xs = some l → evp t xs = some (l.map fun p => (p.1, p.2.den g))
  | [], l, h => by simp only [sevp, Option.some.injEq] at h; subst h; rfl
  | (i, x) :: xs, l, h => by
    simp only [sevp] at h
    split at h
    · rename_i v vs h1 h2
      obtain rfl := Option.some.inj h
      simp only [evp, sev_sound ht h1, sevp_sound ht h2, List.map_cons]
    · cases h

end Go.AM
