/-
  AM, part 20: symbolic operations: values.
-/
import Derived.Test.YtelcedajmnblbaaAm19
set_option linter.unusedVariables false
set_option linter.unusedSimpArgs false
namespace Go.AM

theorem Sg.I_toNat {g : Sg} (x : X) : g.N x = (g.I x).toNat := rfl
theorem Sg.B_le {g : Sg} {x y : X} (h : g.B (xle x y) = true) : g.I x ≤ g.I y := by
  simpa [Sg.B, Sg.d, Sg.I] using h
theorem Sg.B_lt {g : Sg} {x y : X} (h : g.B (xlt x y) = true) : g.I x < g.I y := by
  simpa [Sg.B, Sg.d, Sg.I] using h
@[simp] theorem Sg.I_i (g : Sg) (n : Int) : g.I (.i n) = n := rfl
@[simp] theorem Sg.N_i (g : Sg) (n : Int) : g.N (.i n) = n.toNat := rfl
@[simp] theorem Sg.I_add (g : Sg) (x y : X) : g.I (xadd x y) = g.I x + g.I y := by simp [Sg.I, Sg.d]
@[simp] theorem Sg.I_sub (g : Sg) (x y : X) : g.I (xsub x y) = g.I x - g.I y := by simp [Sg.I, Sg.d]

abbrev R1 := Option (List X × S2)

def s0 (s : S0) : S2 := .one (.one s)

/-! ### numbers -/
def sint (op : BinOp) (k : IntKind) (x y : X) : Option S0 :=
  match op with
  | .add => some (.sc (.int k) (xwrap k (xadd x y)))
  | .sub => some (.sc (.int k) (xwrap k (xsub x y)))
  | .mul => some (.sc (.int k) (xwrap k (xmul x y)))
  | .quo => some (.sc (.int k) (xwrap k (xquo x y)))
  | .rem => some (.sc (.int k) (xrem x y))
  | .eql => some (.sc .bool (xeq x y))
  | .neq => some (.sc .bool (xnot (xeq x y)))
  | .lss => some (.sc .bool (xlt x y))
  | .leq => some (.sc .bool (xle x y))
  | .gtr => some (.sc .bool (xlt y x))
  | .geq => some (.sc .bool (xle y x))
  | _ => none

def isDiv : BinOp → Bool
  | .quo | .rem => true
  | _ => false
theorem sint_sound {g : Sg} {op : BinOp} {k : IntKind} {x y : X} {s : S0} (h : sint op k x y = some s) (hy : isDiv op = true → g.I y ≠ 0) : fastInt op k (g.I x) (g.I y) = some (s.den g) := by
  cases op <;> simp only [sint, Option.some.injEq] at h <;> try (cases h; done)
  case quo =>
    subst h
    simp only [fastInt, if_neg (hy rfl)]
    simp [S0.den, enc, Sg.d, Sg.I]
  case rem =>
    subst h
    simp only [fastInt, if_neg (hy rfl)]
    simp [S0.den, enc, Sg.d, Sg.I]
  all_goals subst h
  all_goals simp [fastInt, S0.den, enc, Sg.d, Sg.I]
  all_goals rfl

def snil : S1 → Option Bool
  | .one (.cst .nilPtr) | .one (.cst .nilSlice) | .one (.cst .nilMap) | .one (.cst .nilFunc) => some true
  | .one (.ptr _ _ _ _) | .clo _ _ _ => some false
  | _ => none

theorem snil_sound {g : Sg} {s : S1} {x : Bool} (h : snil s = some x) : isNilA (s.den g) = some x := by
  unfold snil at h
  split at h <;> first | (cases h; done) | (obtain rfl := Option.some.inj h; rfl)

def snilEq (E : Env) (ty : TypeId) (g₀ : Value) (h₀ : Value) (a b : S1) : Option Bool :=
  match E.under ty, snil a, snil b with
  | some d, some x, some y => if nilFits d g₀ && nilFits d h₀ && (x || y) then some (x && y) else none
  | _, _, _ => none

/-- a value of the same form -/
def S1.form : S1 → Value
  | .one (.cst c) => c.val
  | .one (.ptr _ _ _ _) => .pointer none
  | .clo f _ _ => .func (.func f) #[] #[]
  | _ => .nilIface

theorem form_fits {g : Sg} {s : S1} (d : TypeDesc) (h : nilFits d s.form = true) : nilFits d (s.den g) = true := by
  cases s with
  | one s =>
    cases s with
    | cst c => exact h
    | ptr b es i off => cases d <;> first | (cases h; done) | rfl
    | sc k x => cases d <;> cases h
    | sl b es i len cap => cases d <;> cases h
  | agg l => cases d <;> cases h
  | clo f a b => cases d <;> first | (cases h; done) | rfl

def sbin (E : Env) (op : BinOp) (ty : TypeId) (a b : S1) : Option S0 :=
  match a, b with
  | .one (.sc (.int k) x), .one (.sc (.int k') y) => if k = k' then sint op k x y else none
  | .one (.sc .bool x), .one (.sc .bool y) =>
    match E.under ty, op with
    | some .bool, .eql => some (.sc .bool (xeqb x y))
    | some .bool, .neq => some (.sc .bool (xnot (xeqb x y)))
    | _, _ => none
  | .one (.sc _ _), _ => none
  | _, .one (.sc _ _) => none
  | a, b =>
    match op, snilEq E ty a.form b.form a b with
    | .eql, some r => some (.sc .bool (.b r))
    | .neq, some r => some (.sc .bool (.b (!r)))
    | _, _ => none

/-- what must hold of the second one -/
def sdivc (op : BinOp) (a b : S1) : List X :=
  match isDiv op, a, b with
  | true, .one (.sc _ _), .one (.sc _ y) => [xnot (xeq y (.i 0))]
  | _, _, _ => []

theorem snilEq_sound {E : Env} {g : Sg} {ty : TypeId} {a b : S1} {r : Bool} (h : snilEq E ty a.form b.form a b = some r) : nilEq E ty (a.den g) (b.den g) = some r := by
  unfold snilEq at h
  split at h
  · rename_i d x y h1 h2 h3
    split at h
    · rename_i hc
      simp only [Bool.and_eq_true] at hc
      unfold nilEq
      simp only [h1, snil_sound h2, snil_sound h3, form_fits d hc.1.1, form_fits d hc.1.2, hc.2, Bool.and_self, if_true]
      exact h
    · cases h
  · cases h

theorem fastBin_nil {E : Env} {op : BinOp} {ty : TypeId} {a b : Value} {r : Bool} (h : nilEq E ty a b = some r) :
    fastBin E op ty a b = match op with | .eql => some (.bool r) | .neq => some (.bool (!r)) | _ => none := by
  have hn := h
  unfold nilEq at hn
  split at hn
  · rename_i d x y h1 h2 h3
    unfold fastBin
    split
    · cases h2
    · cases h2
    · cases op <;> simp only [h]
  · cases hn

theorem sbin_sound {E : Env} {g : Sg} {op : BinOp} {ty : TypeId} {a b : S1} {s : S0} (h : sbin E op ty a b = some s) (hc : ∀ c ∈ sdivc op a b, g.B c = true) : fastBin E op ty (a.den g) (b.den g) = some (s.den g) := by
  unfold sbin at h
  split at h
  · rename_i k x k' y
    split at h
    · rename_i hk
      subst hk
      have := sint_sound (g := g) h fun hd => by
        have := hc (xnot (xeq y (.i 0))) (by simp [sdivc, hd])
        simpa [Sg.B, Sg.I, Sg.d, X.den] using this
      simp only [S1.den, S0.den, enc, fastBin, if_true]
      exact this
    · cases h
  · rename_i x y
    simp only [S1.den, S0.den, enc, fastBin]
    split at h
    · rename_i hu
      obtain rfl := Option.some.inj h
      simp [hu, S0.den, enc, Sg.d]
    · rename_i hu
      obtain rfl := Option.some.inj h
      simp [hu, S0.den, enc, Sg.d]
    · cases h
  · cases h
  · cases h
  · split at h
    · rename_i r hn
      obtain rfl := Option.some.inj h
      rw [fastBin_nil (snilEq_sound hn)]; rfl
    · rename_i r hn
      obtain rfl := Option.some.inj h
      rw [fastBin_nil (snilEq_sound hn)]; rfl
    · cases h

/-! ### parts -/
def spart (E : Env) (ty : TypeId) (l : List S0) (off : Nat) : Option S1 :=
  match E.under ty, E.info ty with
  | some d, some (n, _, _) => if isAggD d then some (.agg ((l.drop off).take n)) else (l[off]?).map .one
  | _, _ => none

theorem spart_sound {E : Env} {g : Sg} {ty : TypeId} {l : List S0} {off : Nat} {s : S1} (h : spart E ty l off = some s) : apart E ty (dens g l) off = some (s.den g) := by
  unfold spart at h
  unfold apart
  split at h
  · rename_i d n _ _ h1 h2
    simp only [h1, h2]
    split at h
    · rename_i hd
      obtain rfl := Option.some.inj h
      rw [if_pos hd, dens_drop, dens_take]; rfl
    · rename_i hd
      obtain ⟨s0, h3, rfl⟩ := Option.map_eq_some_iff.1 h
      rw [if_neg hd, dens_get, h3]; rfl
  · cases h

def sfield (E : Env) (s : TypeId) (x : S1) (f : Nat) : Option S1 :=
  match E.under s, x with
  | some (.struct fields), .agg l => match fields.toList[f]? with
    | some fd => spart E fd.type l fd.offset
    | none => none
  | _, _ => none

theorem sfield_sound {E : Env} {g : Sg} {s : TypeId} {x : S1} {f : Nat} {v : S1} (h : sfield E s x f = some v) : afield E s (x.den g) f = some (v.den g) := by
  unfold sfield at h
  unfold afield
  split at h
  · rename_i fields l h1
    simp only [h1, S1.den]
    split at h
    · rename_i fd h2
      simp only [h2]
      exact spart_sound h
    · cases h
  · cases h

def sfieldAddr (E : Env) (s : TypeId) (x : S1) (f : Nat) : Option S0 :=
  match E.under s, x with
  | some (.struct fields), .one (.ptr b es i off) =>
    match fields.toList[f]? with
    | some fd => match E.info fd.type with
      | some (n, _, _) => if n = 0 then none else some (.ptr b es i (off + fd.offset))
      | none => none
    | none => none
  | _, _ => none

theorem sfieldAddr_sound {E : Env} {g : Sg} {s : TypeId} {x : S1} {f : Nat} {v : S0} (h : sfieldAddr E s x f = some v) : afieldAddr E s (x.den g) f = some (v.den g) := by
  unfold sfieldAddr at h
  split at h
  · rename_i fields b es i off h1
    split at h
    · rename_i fd h2
      split at h
      · rename_i n _ _ h3
        split at h
        · cases h
        · rename_i hn
          obtain rfl := Option.some.inj h
          simp only [afieldAddr, h1, S1.den, S0.den, h2, h3]
          rw [if_neg (by simpa using hn), add_none, Nat.add_assoc]
      · cases h
    · cases h
  · cases h

/-! ### elements -/
def sindexAddr (E : Env) (ty : TypeId) (x i : S1) : Option (List X × S0) :=
  match E.under ty, x, i with
  | some (.slice elem), .one (.sl b es o len _), .one (.sc (.int _) j) =>
    match E.info elem with
    | some (n, _, _) => if n = es then some ([xle (.i 0) j, xlt j len, xle (.i 0) o], .ptr b es (xadd o j) 0) else none
    | none => none
  | some (.array len elem), .one (.ptr b es (.i 0) off), .one (.sc (.int _) j) =>
    match E.info elem with
    | some (n, _, _) => some ([xle (.i 0) j, xlt j (.i len)], .ptr b n j off)
    | none => none
  | _, _, _ => none

theorem sindexAddr_sound {E : Env} {g : Sg} {ty : TypeId} {x i : S1} {cs : List X} {v : S0} (h : sindexAddr E ty x i = some (cs, v)) (hc : ∀ c ∈ cs, g.B c = true) :
    aindexAddr E ty (x.den g) (i.den g) = some (v.den g) := by
  unfold sindexAddr at h
  split at h
  · rename_i elem b es o len cap k j h1
    split at h
    · rename_i n _ _ h2
      split at h
      · rename_i hn
        subst hn
        simp only [Option.some.injEq, Prod.mk.injEq] at h
        obtain ⟨rfl, rfl⟩ := h
        have c1 := Sg.B_le (hc (xle (.i 0) j) (by simp))
        have c2 := Sg.B_lt (hc (xlt j len) (by simp))
        have c3 := Sg.B_le (hc (xle (.i 0) o) (by simp))
        simp only [Sg.I_i] at c1 c3
        simp only [aindexAddr, h1, S1.den, S0.den, enc, h2]
        have e : (g.d j).toI = g.I j := rfl
        rw [e, if_pos ⟨c1, by rw [Sg.I_toNat]; omega, trivial⟩, add_none]
        simp only [Sg.I_toNat, Sg.I_add]
        rw [Int.toNat_add c3 c1, Nat.add_mul]; rfl
      · cases h
    · cases h
  · rename_i len elem b es off k j h1
    split at h
    · rename_i n _ _ h2
      simp only [Option.some.injEq, Prod.mk.injEq] at h
      obtain ⟨rfl, rfl⟩ := h
      have c1 := Sg.B_le (hc (xle (.i 0) j) (by simp))
      have c2 := Sg.B_lt (hc (xlt j (.i len)) (by simp))
      simp only [Sg.I_i] at c1 c2
      simp only [aindexAddr, h1, S1.den, S0.den, enc, h2]
      have e : (g.d j).toI = g.I j := rfl
      rw [e, if_pos ⟨c1, c2, trivial⟩, add_none]
      simp [Sg.I_toNat, Nat.add_comm]
    · cases h
  · cases h

/-- one of several, by number -/
def chain (k : K) (j : X) : Nat → List S0 → Option X
  | _, [.sc k' x] => if k = k' then some x else none
  | n, .sc k' x :: l => if k = k' then (chain k j (n + 1) l).map fun y => xite (xeq j (.i n)) x y else none
  | _, _ => none

theorem chain_den {g : Sg} {k : K} {j : X} : ∀ {l : List S0} {n : Nat} {x : X}, chain k j n l = some x → (n : Int) ≤ g.I j → g.I j < n + l.length →
    (l[((g.I j) - n).toNat]?).map (S0.den g) = some (enc k (g.d x))
  | [], n, x, h, _, _ => by cases h
  | [.sc k' y], n, x, h, h1, h2 => by
    simp only [chain] at h
    split at h
    · rename_i e
      subst e
      obtain rfl := Option.some.inj h
      simp only [List.length_cons, List.length_nil] at h2
      have : g.I j - n = 0 := by omega
      simp [this, S0.den]
    · cases h
  | .sc k' y :: s :: l, n, x, h, h1, h2 => by
    simp only [chain] at h
    split at h
    · rename_i e
      subst e
      obtain ⟨z, h3, rfl⟩ := Option.map_eq_some_iff.1 h
      simp only [Sg.d, xite_den, xeq_den]
      have hj : (X.den g.C g.ρ j).toI = g.I j := rfl
      have hn : (X.den g.C g.ρ (.i (n : Int))).toI = (n : Int) := rfl
      rw [hj, hn]
      by_cases e : g.I j = n
      · simp [e, S0.den, Sg.d]
      · have ih := chain_den (g := g) (l := s :: l) h3 (by omega) (by simp only [List.length_cons] at *; omega)
        have e2 : (g.I j - (n : Int)).toNat = (g.I j - ((n + 1 : Nat) : Int)).toNat + 1 := by omega
        rw [e2, List.getElem?_cons_succ, ih]
        simp [e, Sg.d]
    · cases h
  | .cst _ :: _, _, _, h, _, _ => by simp [chain] at h
  | .ptr _ _ _ _ :: _, _, _, h, _, _ => by simp [chain] at h
  | .sl _ _ _ _ _ :: _, _, _, h, _, _ => by simp [chain] at h

def sindex (E : Env) (ty : TypeId) (x i : S1) : Option (List X × S1) :=
  match E.under ty, x, i with
  | some (.array len elem), .agg l, .one (.sc (.int _) j) =>
    match E.info elem with
    | some (n, _, _) =>
      match j with
      | .i z => if 0 ≤ z ∧ z < len then (spart E elem l (z.toNat * n)).map fun s => ([], s) else none
      | j =>
        match E.under elem with
        | some d =>
          if isAggD d = false ∧ n = 1 ∧ len = l.length then
            match l with
            | .sc k _ :: _ => (chain k j 0 l).map fun x => ([xle (.i 0) j, xlt j (.i len)], .one (.sc k x))
            | _ => none
          else none
        | none => none
    | none => none
  | _, _, _ => none

theorem sindex_sound {E : Env} {g : Sg} {ty : TypeId} {x i : S1} {cs : List X} {v : S1} (h : sindex E ty x i = some (cs, v)) (hc : ∀ c ∈ cs, g.B c = true) :
    aindex E ty (x.den g) (i.den g) = some (v.den g) := by
  unfold sindex at h
  split at h
  · rename_i len elem l k j h1
    split at h
    · rename_i n _ _ h2
      have e : (g.d j).toI = g.I j := rfl
      simp only [aindex, h1, S1.den, S0.den, enc, h2, e]
      split at h
      · rename_i z
        split at h
        · rename_i hz
          obtain ⟨s, h3, h4⟩ := Option.map_eq_some_iff.1 h
          simp only [Prod.mk.injEq] at h4
          obtain ⟨rfl, rfl⟩ := h4
          rw [Sg.I_i, if_pos hz]
          exact spart_sound h3
        · cases h
      · rename_i hne
        split at h
        · rename_i d h3
          split at h
          · rename_i hd
            obtain ⟨hd, rfl, rfl⟩ := hd
            split at h
            · rename_i l' k' y
              obtain ⟨x, h4, h5⟩ := Option.map_eq_some_iff.1 h
              simp only [Prod.mk.injEq] at h5
              obtain ⟨rfl, rfl⟩ := h5
              have c1 := Sg.B_le (hc (xle (.i 0) j) (by simp))
              have c2 := Sg.B_lt (hc _ (List.mem_cons_of_mem _ List.mem_cons_self))
              simp only [Sg.I_i] at c1 c2
              rw [if_pos ⟨c1, c2⟩]
              have := chain_den (g := g) h4 (by simpa using c1) (by simpa using c2)
              simp only [apart, h3, h2, hd, Bool.false_eq_true, if_false]
              simp only [Nat.mul_one, dens_get]
              rw [show (g.I j - ((0 : Nat) : Int)) = g.I j by simp] at this
              exact this
            · cases h
          · cases h
        · cases h
    · cases h
  · cases h

end Go.AM
