/-
  AM, part 36: words for conditions out of trees.
-/
import Derived.Test.YtelcedajmnblbaaAm35
set_option linter.unusedVariables false
set_option linter.unusedSimpArgs false
namespace Go.AM

/-- the tree of a function -/
def treeF (S : SE) (n : Nat) (g : FuncId) (c : Con) : Tree :=
  match S.E.P.funcs[g]? with
  | some fn => match fn.body with
    | some b => treeOf S n fn b c
    | none => .stuck 97
  | none => .stuck 98

def bodied (P : Program) (g : FuncId) : Bool :=
  match P.funcs[g]? with
  | some fn => fn.body.isSome
  | none => false

def vc0 (C : FuncId → Option Con) (R : D → Prop) : VCtx := { C := C, J := fun _ _ => False, ms := fun _ _ => 0, R := R }

theorem ConsOk.of {P : Program} (hm : P.follows .mixedOrders = true) (hn : namesOk P = true) {l : Cons} (hl : ConsOk P l) {g : FuncId} {c : Con} (hg : bodied P g = true) (n : Nat)
    {T : Tree} (hT : treeF (mkS P l) n g c = T)
    (hv : ∀ ds, c.ok ds = true → norms c.ins ds = ds → VC (vc0 (conOf l) (fun d => d.toL = norms c.outs (c.f ds))) (fun _ => (0, fun _ => default)) (ρof ds) T) : ConsOk P ((g, c) :: l) := by
  have e : (mkS P l).E.P = P := rfl
  unfold treeF at hT
  unfold bodied at hg
  rw [e] at hT
  cases hf : P.funcs[g]? with
  | none => rw [hf] at hg; cases hg
  | some fn =>
    rw [hf] at hT hg
    simp only at hT hg
    cases hb : fn.body with
    | none => rw [hb] at hg; cases hg
    | some b =>
      rw [hb] at hT
      exact ConsOk.tree hm hn hl hf hb n hT hv

/-! ### parts -/
def fldD (d : D) (i : Nat) : D := (d.toL[i]?).getD default
def fld (d : D) (i : Nat) : Int := (fldD d i).toI
def atD (d : D) (i : Int) : D := (d.toL[i.toNat]?).getD default

section
variable {C : FuncId → Option Con} {ρ : Nat → D}
def X.I (C : FuncId → Option Con) (ρ : Nat → D) (x : X) : Int := (x.den C ρ).toI
def X.B (C : FuncId → Option Con) (ρ : Nat → D) (x : X) : Bool := (x.den C ρ).toB

theorem VC_stuck {x : VCtx} {m : Lm} {ρ : Nat → D} {n : Nat} : VC x m ρ (.stuck n) = False := rfl
theorem VC_ret {x : VCtx} {m : Lm} {ρ : Nat → D} {e : X} : VC x m ρ (.ret e) = x.R (e.den x.C ρ) := rfl
theorem VC_must {x : VCtx} {m : Lm} {ρ : Nat → D} {c : X} {t : Tree} : VC x m ρ (.must c t) = (c.B x.C ρ = true ∧ (c.B x.C ρ = true → VC x m ρ t)) := rfl
theorem VC_br {x : VCtx} {m : Lm} {ρ : Nat → D} {c : X} {a b : Tree} : VC x m ρ (.br c a b) = ((c.B x.C ρ = true → VC x m ρ a) ∧ (c.B x.C ρ = false → VC x m ρ b)) := rfl
theorem I_def {x : X} : (x.den C ρ).toI = x.I C ρ := rfl
theorem B_def {x : X} : (x.den C ρ).toB = x.B C ρ := rfl
theorem I_i {n : Int} : (X.i n).I C ρ = n := rfl
theorem I_v {n : Nat} : (X.v n).I C ρ = (ρ n).toI := rfl
theorem I_wrap {k : IntKind} {x : X} : (X.wrap k x).I C ρ = k.wrap (x.I C ρ) := rfl
theorem I_add {x y : X} : (X.add x y).I C ρ = x.I C ρ + y.I C ρ := rfl
theorem I_sub {x y : X} : (X.sub x y).I C ρ = x.I C ρ - y.I C ρ := rfl
theorem I_mul {x y : X} : (X.mul x y).I C ρ = x.I C ρ * y.I C ρ := rfl
theorem I_get {x : X} {n : Nat} : (X.get x n).I C ρ = fld (x.den C ρ) n := rfl
theorem I_len {x : X} : (X.len x).I C ρ = (x.den C ρ).toL.length := rfl
theorem I_co {k : IntKind} {x : X} : (X.co (.k (.int k)) x).I C ρ = x.I C ρ := rfl
theorem I_ite {c x y : X} : (X.ite c x y).I C ρ = if c.B C ρ = true then x.I C ρ else y.I C ρ := by
  unfold X.I; simp only [X.den, X.B]; by_cases h : (c.den C ρ).toB = true <;> simp [h]
theorem BT_b {b : Bool} : ((X.b b).B C ρ = true) = (b = true) := rfl
theorem BF_b {b : Bool} : ((X.b b).B C ρ = false) = (b = false) := rfl
theorem BT_lt {x y : X} : ((X.lt x y).B C ρ = true) = (x.I C ρ < y.I C ρ) := by show (decide _ = true) = _; rw [decide_eq_true_eq]; rfl
theorem BF_lt {x y : X} : ((X.lt x y).B C ρ = false) = (y.I C ρ ≤ x.I C ρ) := by show (decide _ = false) = _; rw [decide_eq_false_iff_not, Int.not_lt]; rfl
theorem BT_le {x y : X} : ((X.le x y).B C ρ = true) = (x.I C ρ ≤ y.I C ρ) := by show (decide _ = true) = _; rw [decide_eq_true_eq]; rfl
theorem BF_le {x y : X} : ((X.le x y).B C ρ = false) = (y.I C ρ < x.I C ρ) := by show (decide _ = false) = _; rw [decide_eq_false_iff_not, Int.not_le]; rfl
theorem BT_eq {x y : X} : ((X.eq x y).B C ρ = true) = (x.I C ρ = y.I C ρ) := by
  show (((x.den C ρ).toI == (y.den C ρ).toI) = true) = _
  rw [beq_iff_eq]; rfl
theorem BF_eq {x y : X} : ((X.eq x y).B C ρ = false) = (x.I C ρ ≠ y.I C ρ) := by
  show (((x.den C ρ).toI == (y.den C ρ).toI) = false) = _
  rw [beq_eq_false_iff_ne]; rfl
theorem BT_eqb {x y : X} : ((X.eqb x y).B C ρ = true) = (x.B C ρ = y.B C ρ) := by
  show (((x.den C ρ).toB == (y.den C ρ).toB) = true) = _
  rw [beq_iff_eq]; rfl
theorem BF_eqb {x y : X} : ((X.eqb x y).B C ρ = false) = (x.B C ρ ≠ y.B C ρ) := by
  show (((x.den C ρ).toB == (y.den C ρ).toB) = false) = _
  rw [beq_eq_false_iff_ne]; rfl
theorem BT_not {x : X} : ((X.not x).B C ρ = true) = (x.B C ρ = false) := by
  show ((!(x.B C ρ)) = true) = _; simp
theorem BF_not {x : X} : ((X.not x).B C ρ = false) = (x.B C ρ = true) := by
  show ((!(x.B C ρ)) = false) = _; simp
theorem BT_and {x y : X} : ((X.and x y).B C ρ = true) = (x.B C ρ = true ∧ y.B C ρ = true) := by
  show ((x.B C ρ && y.B C ρ) = true) = _; simp
theorem BF_and {x y : X} : ((X.and x y).B C ρ = false) = (x.B C ρ = false ∨ y.B C ρ = false) := by
  show ((x.B C ρ && y.B C ρ) = false) = _
  cases x.B C ρ <;> cases y.B C ρ <;> simp
theorem B_v {n : Nat} : (X.v n).B C ρ = (ρ n).toB := rfl
theorem B_get {x : X} {n : Nat} : (X.get x n).B C ρ = (fldD (x.den C ρ) n).toB := rfl
theorem B_co {x : X} : (X.co (.k .bool) x).B C ρ = x.B C ρ := rfl
theorem BT_ite {c x y : X} : ((X.ite c x y).B C ρ = true) = ((c.B C ρ = true ∧ x.B C ρ = true) ∨ (c.B C ρ = false ∧ y.B C ρ = true)) := by
  show ((X.den C ρ _).toB = true) = _; simp only [X.den, X.B]; cases h : (c.den C ρ).toB <;> simp
theorem BF_ite {c x y : X} : ((X.ite c x y).B C ρ = false) = ((c.B C ρ = true ∧ x.B C ρ = false) ∨ (c.B C ρ = false ∧ y.B C ρ = false)) := by
  show ((X.den C ρ _).toB = false) = _; simp only [X.den, X.B]; cases h : (c.den C ρ).toB <;> simp
theorem B_pre {g : Nat} {x : X} {c : Con} (h : C g = some c) : (X.pre g x).B C ρ = c.pre (x.den C ρ).toL := by
  show (X.den C ρ _).toB = _; simp only [X.den, h]; rfl
theorem den_call {g : Nat} {x : X} {c : Con} (h : C g = some c) : (X.call g x).den C ρ = .l (c.f (x.den C ρ).toL) := by
  simp only [X.den, h]
theorem den_v {n : Nat} : (X.v n).den C ρ = ρ n := rfl
theorem den_get {x : X} {n : Nat} : (X.get x n).den C ρ = fldD (x.den C ρ) n := rfl
theorem den_at {x y : X} : (X.at x y).den C ρ = atD (x.den C ρ) (y.I C ρ) := rfl
theorem den_nil : (X.nil).den C ρ = .l [] := rfl
theorem den_cons {x y : X} : (X.cons x y).den C ρ = .l (x.den C ρ :: (y.den C ρ).toL) := rfl
theorem den_co {s : Sh} {x : X} : (X.co s x).den C ρ = s.norm (x.den C ρ) := rfl
theorem den_i {n : Int} : (X.i n).den C ρ = .i n := rfl
theorem den_b {n : Bool} : (X.b n).den C ρ = .b n := rfl
theorem den_wrap {k : IntKind} {x : X} : (X.wrap k x).den C ρ = .i (k.wrap (x.I C ρ)) := rfl
theorem den_add {x y : X} : (X.add x y).den C ρ = .i (x.I C ρ + y.I C ρ) := rfl
theorem den_sub {x y : X} : (X.sub x y).den C ρ = .i (x.I C ρ - y.I C ρ) := rfl
theorem den_mul {x y : X} : (X.mul x y).den C ρ = .i (x.I C ρ * y.I C ρ) := rfl
theorem den_len {x : X} : (X.len x).den C ρ = .i (x.den C ρ).toL.length := rfl
theorem den_lt {x y : X} : (X.lt x y).den C ρ = .b ((X.lt x y).B C ρ) := rfl
theorem den_le {x y : X} : (X.le x y).den C ρ = .b ((X.le x y).B C ρ) := rfl
theorem den_eq {x y : X} : (X.eq x y).den C ρ = .b ((X.eq x y).B C ρ) := rfl
theorem den_eqb {x y : X} : (X.eqb x y).den C ρ = .b ((X.eqb x y).B C ρ) := rfl
theorem den_not {x : X} : (X.not x).den C ρ = .b ((X.not x).B C ρ) := rfl
theorem den_and {x y : X} : (X.and x y).den C ρ = .b ((X.and x y).B C ρ) := rfl
theorem den_seg {r s n : X} : (X.seg r s n).den C ρ = .l (((r.den C ρ).toL.drop (s.I C ρ).toNat).take (n.I C ρ).toNat) := rfl
theorem den_cat {r q : X} : (X.cat r q).den C ρ = .l ((r.den C ρ).toL ++ (q.den C ρ).toL) := rfl
theorem den_set {r i x : X} : (X.set r i x).den C ρ = .l ((r.den C ρ).toL.set (i.I C ρ).toNat (x.den C ρ)) := rfl
theorem den_reps {n x : X} : (X.reps n x).den C ρ = .l (List.replicate (n.I C ρ).toNat (x.den C ρ)) := rfl
theorem den_ite {c x y : X} : (X.ite c x y).den C ρ = if c.B C ρ = true then x.den C ρ else y.den C ρ := rfl
end

theorem vc_and {p q a b : Prop} (h1 : p → a) (h2 : q → b) : (p → a) ∧ (q → b) := ⟨h1, h2⟩
theorem vc_must {p q : Prop} (h1 : p) (h2 : p → q) : p ∧ (p → q) := ⟨h1, h2⟩
theorem fldD_l {l : List D} {i : Nat} : fldD (.l l) i = (l[i]?).getD default := rfl
theorem fld_l {l : List D} {i : Nat} : fld (.l l) i = ((l[i]?).getD default).toI := rfl
theorem fldD_0 {x : D} {l : List D} : fldD (.l (x :: l)) 0 = x := rfl
theorem fldD_s {x : D} {l : List D} {n : Nat} : fldD (.l (x :: l)) (n + 1) = fldD (.l l) n := rfl
theorem fld_def (d : D) (i : Nat) : fld d i = (fldD d i).toI := rfl
theorem fldD_toI {d : D} {i : Nat} : (fldD d i).toI = fld d i := rfl
theorem ρof_get {ds : List D} {n : Nat} : ρof ds n = fldD (.l ds) n := rfl
theorem vc0_C {C : FuncId → Option Con} {R : D → Prop} : (vc0 C R).C = C := rfl
theorem vc0_R {C : FuncId → Option Con} {R : D → Prop} : (vc0 C R).R = R := rfl
theorem wf_i64 (n : Int) : ((Lit.int .i64 n).wf = true) = (-9223372036854775808 ≤ n ∧ n ≤ 9223372036854775807) := by
  simp [Lit.wf, IntKind.min, IntKind.max, IntKind.bits, IntKind.signed]
theorem wrap_i64 (n : Int) : IntKind.i64.wrap n = (n + 9223372036854775808) % 18446744073709551616 - 9223372036854775808 := by
  simp [IntKind.wrap, IntKind.bits, IntKind.signed]; omega

end Go.AM
