/-
  AM, part 23: symbolic operations that touch no memory: negation, conversion, equality of structs.
-/
import Derived.Test.YtelcedajmnblbaaAm22
set_option linter.unusedVariables false
set_option linter.unusedSimpArgs false
namespace Go.AM

theorem pureRun_bind {α β : Type} {P : Program} (x : Sem α) (f : α → Sem β) : pureRun P (x >>= f) = (pureRun P x).bind fun a => pureRun P (f a) := by
  show pureRun P (Sem.bind x f) = _
  induction x with
  | pure a => rfl
  | program k ih => exact ih P
  | mark m k ih => exact ih
  | _ => rfl
theorem pureRun_pure {α : Type} {P : Program} (a : α) : pureRun P (pure a : Sem α) = some a := rfl
theorem pureRun_map {α β : Type} {P : Program} (x : Sem α) (f : α → β) : pureRun P (f <$> x) = (pureRun P x).map f := by
  show pureRun P (x >>= fun a => pure (f a)) = _
  rw [pureRun_bind]
  cases pureRun P x <;> rfl

theorem pureRun_underlying {P : Program} {t : TypeId} {d : TypeDesc} (h : P.underlying t = some d) : pureRun P (underlying t) = some d := by
  unfold underlying
  rw [pureRun_bind]
  show (some P).bind _ = _
  simp only [Option.bind_some, h]
  rfl
theorem pureRun_size {E : Env} (hE : E.Ok) {t : TypeId} {n b : Nat} {z : Value} (h : E.info t = some (n, b, z)) : pureRun E.P (sizeOf t) = some n := by
  obtain ⟨i, h1, h2, _, _⟩ := hE.info _ _ _ _ h
  unfold sizeOf typeInfo
  simp only [bind_assoc]
  rw [pureRun_bind]
  show (some E.P).bind _ = _
  simp only [Option.bind_some, h1]
  show some i.size = some n
  rw [h2]

theorem pureRun_isAgg {E : Env} (hE : E.Ok) {t : TypeId} {d : TypeDesc} (h : E.under t = some d) : pureRun E.P (isAgg t) = some (isAggD d) := by
  unfold isAgg
  rw [pureRun_bind, pureRun_underlying (hE.under _ _ h)]
  cases d <;> rfl

theorem pureRun_part {E : Env} (hE : E.Ok) {t : TypeId} {cs : Array Value} {off : Nat} {v : Value} (h : apart E t cs.toList off = some v) : pureRun E.P (part t cs off) = some v := by
  unfold apart at h
  split at h
  · rename_i d n b z h1 h2
    unfold part
    rw [pureRun_bind, pureRun_isAgg hE h1]
    simp only [Option.bind_some]
    split at h
    · rename_i hd
      obtain rfl := Option.some.inj h
      rw [if_pos hd, pureRun_bind, pureRun_size hE h2]
      simp only [Option.bind_some, pureRun_pure, Option.some.injEq, Value.agg.injEq]
      apply Array.ext'
      simp [List.extract_eq_take_drop]
    · rename_i hd
      rw [if_neg hd]
      simp only [Array.getElem?_toList] at h
      rw [h]
      rfl
  · cases h

/-! ### equality -/
def seqF (E : Env) (q : TypeId → S1 → S1 → Option X) (la lb : List S0) : List Field → Option X
  | [] => some (.b true)
  | f :: fs =>
    if f.name ≠ "_" then
      match spart E f.type la f.offset, spart E f.type lb f.offset with
      | some a, some b => match q f.type a b, seqF E q la lb fs with
        | some x, some y => some (xand x y)
        | _, _ => none
      | _, _ => none
    else seqF E q la lb fs

def seqIn (E : Env) : Nat → TypeId → S1 → S1 → Option X
  | 0, _, _, _ => none
  | n + 1, ty, a, b =>
    match E.under ty, a, b with
    | some .bool, .one (.sc .bool x), .one (.sc .bool y) => some (xeqb x y)
    | some (.int _), .one (.sc (.int k) x), .one (.sc (.int k') y) => if k = k' then some (xeq x y) else none
    | some (.struct fields), .agg la, .agg lb => if E.P.stoodInHeld ty = false then seqF E (seqIn E n) la lb fields.toList else none
    | _, _, _ => none

theorem seqF_sound {E : Env} (hE : E.Ok) {g : Sg} {n : Nat} {la lb : List S0} (ih : ∀ ty a b x, seqIn E n ty a b = some x → pureRun E.P (Op.equalIn n ty (a.den g) (b.den g)) = some (g.B x)) :
    ∀ (fs : List Field) (x : X), seqF E (seqIn E n) la lb fs = some x →
      (pureRun E.P (forIn fs ((none, ()) : Option Bool × Unit) fun f _ => do
        if f.name ≠ "_" then
          if !(← Op.equalIn n f.type (← part f.type (dens g la).toArray f.offset) (← part f.type (dens g lb).toArray f.offset)) then pure (ForInStep.done (some false, ()))
          else pure (ForInStep.yield (none, ()))
        else pure (ForInStep.yield (none, ())))).map (fun r => r.fst.getD true) = some (g.B x)
  | [], x, h => by simp only [seqF, Option.some.injEq] at h; subst h; rfl
  | f :: fs, x, h => by
    simp only [seqF] at h
    rw [List.forIn_cons, pureRun_bind]
    split at h
    · rename_i hf
      split at h
      · rename_i a b h1 h2
        split at h
        · rename_i x1 x2 h3 h4
          obtain rfl := Option.some.inj h
          have e1 := ih _ _ _ _ h3
          have e2 := seqF_sound hE ih fs x2 h4
          have p1 := pureRun_part hE (cs := (dens g la).toArray) (by simpa using spart_sound (g := g) h1)
          have p2 := pureRun_part hE (cs := (dens g lb).toArray) (by simpa using spart_sound (g := g) h2)
          rw [if_pos hf]
          simp only [pureRun_bind, p1, p2, e1, Option.bind_some]
          have hB : g.B (xand x1 x2) = (g.B x1 && g.B x2) := by simp [Sg.B, Sg.d]
          rw [hB]
          cases hx : g.B x1
          · simp [pureRun_pure]
          · simp only [Bool.not_true, Bool.false_eq_true, if_false, pureRun_pure, Option.bind_some, Bool.true_and]
            exact e2
        · cases h
      · cases h
    · rename_i hf
      rw [if_neg hf]
      simp only [pureRun_pure, Option.bind_some]
      exact seqF_sound hE ih fs x h

theorem seqIn_sound {E : Env} (hE : E.Ok) {g : Sg} : ∀ (n : Nat) (ty : TypeId) (a b : S1) (x : X), seqIn E n ty a b = some x → pureRun E.P (Op.equalIn n ty (a.den g) (b.den g)) = some (g.B x)
  | 0, _, _, _, _, h => by cases h
  | n + 1, ty, a, b, x, h => by
    simp only [seqIn] at h
    split at h
    · rename_i x1 y1 hu
      obtain rfl := Option.some.inj h
      rw [Op.equalIn, pureRun_bind, pureRun_underlying (hE.under _ _ hu)]
      simp [S1.den, S0.den, enc, pureRun_pure, Sg.B, Sg.d]
    · rename_i k0 k x1 k' y1 hu
      split at h
      · rename_i hk
        subst hk
        obtain rfl := Option.some.inj h
        rw [Op.equalIn, pureRun_bind, pureRun_underlying (hE.under _ _ hu)]
        simp [S1.den, S0.den, enc, pureRun_pure, Sg.B, Sg.d]
      · cases h
    · rename_i fields la lb hu
      split at h
      · rename_i hst
        rw [Op.equalIn, pureRun_bind, pureRun_underlying (hE.under _ _ hu)]
        simp only [Option.bind_some, S1.den]
        rw [pureRun_bind]
        show (some E.P).bind _ = _
        simp only [Option.bind_some, hst, Bool.false_eq_true, if_false]
        have := seqF_sound hE (g := g) (la := la) (lb := lb) (seqIn_sound hE n) fields.toList x h
        rw [← this]
        simp only [← Array.forIn_toList]
        rw [pureRun_bind]
        generalize (forIn fields.toList ((none, ()) : Option Bool × Unit) _ : Sem (Option Bool × Unit)) = y
        cases pureRun E.P y with
        | none => rfl
        | some r => obtain ⟨r1, r2⟩ := r; cases r1 <;> rfl
      · cases h
    · cases h

theorem sflat {g : Sg} {s : S0} (h : s.ok = true) (h2 : ∀ b es i off, s ≠ .ptr b es i off) (h3 : ∀ b es i l c, s ≠ .sl b es i l c) : scal (s.den g) = true := by
  cases s with
  | sc k x => cases k <;> rfl
  | cst c => cases c <;> first | rfl | cases h
  | ptr => exact absurd rfl (h2 _ _ _ _)
  | sl => exact absurd rfl (h3 _ _ _ _ _)

def S0.scalar : S0 → Bool
  | .sc _ _ => true
  | _ => false
def S1.scalars : S1 → Bool
  | .one s => s.scalar
  | .agg l => l.all S0.scalar
  | .clo _ _ _ => false
theorem S0.scalar_den {g : Sg} {s : S0} (h : s.scalar = true) : scal (s.den g) = true := by
  cases s with
  | sc k x => cases k <;> rfl
  | _ => cases h
theorem S1.scalars_den {g : Sg} {s : S1} (h : s.scalars = true) : flat (s.den g) = true := by
  cases s with
  | one s =>
    have := S0.scalar_den (g := g) h
    simp only [S1.den]
    unfold flat
    split
    · rename_i e; rw [e] at this; cases this
    · exact this
  | agg l =>
    simp only [S1.den, flat, S1.scalars, List.all_eq_true, dens, List.all_map] at *
    exact fun x hx => S0.scalar_den (h x hx)
  | clo _ _ _ => cases h

/-- what falls to the model's own words, and can be told -/
def sfall (E : Env) (t : TS) (o : Oper) : Option S2 :=
  match o.op with
  | .unOp op _ x => match op, sev t x with
    | .not, some (.one (.one (.sc .bool a))) => some (s0 (.sc .bool (xnot a)))
    | .neg, some (.one (.one (.sc (.int k) a))) => some (s0 (.sc (.int k) (xwrap k (xsub (.i 0) a))))
    | _, _ => none
  | .convert src dst x => match E.under src, E.under dst, sev t x with
    | some (.int _), some (.int k), some (.one (.one (.sc (.int _) a))) => some (s0 (.sc (.int k) (xwrap k a)))
    | _, _, _ => none
  | .binOp op ty x y _ => match sev t x, sev t y with
    | some (.one a), some (.one b) =>
      if a.scalars && b.scalars && !(E.P.eqGuardType E.P.depth ty) then
        match a, b with
        | .agg _, .agg _ => match op, seqIn E Op.maxDepth ty a b with
          | .eql, some r => some (s0 (.sc .bool r))
          | .neq, some r => some (s0 (.sc .bool (xnot r)))
          | _, _ => none
        | _, _ => none
      else none
    | _, _ => none
  | _ => none

theorem afall_of {E : Env} {t : T} {o : Oper} {v : Value} (h1 : o.op.operands.toList.all (flatAt t) = true) (h2 : pureRun E.P (execOp (fun x => (ev t x).getD undef) o) = some (.value v)) (h3 : flat2 v = true) :
    afall E t o = some v := by
  unfold afall
  rw [if_pos h1, h2]
  simp [h3]

theorem pureRun_program {α : Type} {P : Program} (f : Program → Sem α) : pureRun P (program >>= f) = pureRun P (f P) := rfl

theorem eqGuard_agg {P : Program} {op : BinOp} {ty : TypeId} {x y : Operand} {A B : Array Value} (h : P.eqGuardType P.depth ty = false) : pureRun P (eqGuard op ty x y (.agg A) (.agg B)) = some () := by
  unfold eqGuard
  cases op <;> simp [pureRun_program, h, pureRun_pure]

theorem sfall_sound {E : Env} (hE : E.Ok) {g : Sg} {τ : TS} {t : T} (ht : TR g τ t) {o : Oper} {v : S2} (h : sfall E τ o = some v) : afall E t o = some (v.den g) := by
  obtain ⟨dst, op, type, pos, after, guard⟩ := o
  cases op <;> simp only [sfall] at h <;> try (cases h; done)
  case unOp op ty x =>
    split at h
    · rename_i a ha
      obtain rfl := Option.some.inj h
      have e := sev_sound ht ha
      refine afall_of (by simp [Op.operands, flatAt, e, S2.den, S1.den, S0.den, enc, flat, scal]) ?_ (by simp [s0, S2.den, S1.den, S0.den, enc, flat2, flat, scal])
      simp only [execOp, e, Option.getD_some]
      simp [S2.den, S1.den, S0.den, enc, Op.unary, s0, Sg.d]
      rfl
    · rename_i k a ha
      obtain rfl := Option.some.inj h
      have e := sev_sound ht ha
      refine afall_of (by simp [Op.operands, flatAt, e, S2.den, S1.den, S0.den, enc, flat, scal]) ?_ (by simp [s0, S2.den, S1.den, S0.den, enc, flat2, flat, scal])
      simp only [execOp, e, Option.getD_some]
      simp [S2.den, S1.den, S0.den, enc, Op.unary, Op.intArith, s0, Sg.d, X.den]
      rfl
    · cases h
  case convert src dst x =>
    split at h
    · rename_i k1 k k2 a h1 h2 ha
      obtain rfl := Option.some.inj h
      have e := sev_sound ht ha
      refine afall_of (by simp [Op.operands, flatAt, e, S2.den, S1.den, S0.den, enc, flat, scal]) ?_ (by simp [s0, S2.den, S1.den, S0.den, enc, flat2, flat, scal])
      simp only [execOp, e, Option.getD_some, Go.convert, pureRun_bind, pureRun_map, pureRun_underlying (hE.under _ _ h1), pureRun_underlying (hE.under _ _ h2), Option.bind_some]
      simp [S2.den, S1.den, S0.den, enc, Conv.intToInt, s0, Sg.d]
      rfl
    · cases h
  case binOp op ty x y yt =>
    split at h
    · rename_i a b ha hb
      split at h
      · rename_i hc
        simp only [Bool.and_eq_true, Bool.not_eq_true'] at hc
        obtain ⟨⟨fa, fb⟩, hg⟩ := hc
        have ea := sev_sound ht ha
        have eb := sev_sound ht hb
        have hops : (Op.binOp op ty x y yt).operands.toList.all (flatAt t) = true := by
          simp [Op.operands, flatAt, ea, eb, S2.den, S1.scalars_den fa, S1.scalars_den fb]
        split at h
        · rename_i la lb
          split at h
          · rename_i r hr
            obtain rfl := Option.some.inj h
            refine afall_of hops ?_ (by simp [s0, S2.den, S1.den, S0.den, enc, flat2, flat, scal])
            have := seqIn_sound hE (g := g) _ _ _ _ _ hr
            simp only [S1.den] at this
            simp only [execOp, ea, eb, Option.getD_some, S2.den, S1.den, pureRun_bind, pureRun_map, eqGuard_agg hg, Option.bind_some]
            simp only [Go.binOp, Op.equal, pureRun_bind, this, Option.bind_some, pureRun_pure]
            simp [s0, S2.den, S1.den, S0.den, enc, Sg.B, Sg.d]
          · rename_i r hr
            obtain rfl := Option.some.inj h
            refine afall_of hops ?_ (by simp [s0, S2.den, S1.den, S0.den, enc, flat2, flat, scal])
            have := seqIn_sound hE (g := g) _ _ _ _ _ hr
            simp only [S1.den] at this
            simp only [execOp, ea, eb, Option.getD_some, S2.den, S1.den, pureRun_bind, pureRun_map, eqGuard_agg hg, Option.bind_some]
            simp only [Go.binOp, Op.equal, pureRun_bind, this, Option.bind_some, pureRun_pure]
            simp [s0, S2.den, S1.den, S0.den, enc, Sg.B, Sg.d]
          · cases h
        · cases h
      · cases h
    · cases h

end Go.AM
