/-
  AM, part 4: each operation of the abstract machine is the model's own.
-/
import Derived.Test.YtelcedajmnblbaaAm3
import Derived.IntWalk
set_option linter.unusedVariables false
set_option linter.unusedSimpArgs false
namespace Go.AM

structure Env.Ok (E : Env) : Prop where
  under : ∀ t d, E.under t = some d → E.P.underlying t = some d
  info : ∀ t n b z, E.info t = some (n, b, z) → ∃ i, E.P.info? t = some i ∧ i.size = n ∧ i.bytes = b ∧ i.zero = some z
  func : ∀ f fn, E.func f = some fn → E.P.funcs[f]? = some fn
  mixed : E.P.follows .mixedOrders = true

structure TRel (ι : Inj) (N : Nat) (t : T) (a : Act) : Prop where
  size : a.tmps.size = N
  defers : a.defers = []
  rel : ∀ i, VRel ι (t i) (a.tmps.getD i undef)

theorem TRel.mono {ι ι' : Inj} {N : Nat} {t : T} {a : Act} (h : TRel ι N t a) (hle : ι.le ι') : TRel ι' N t a := ⟨h.size, h.defers, fun i => (h.rel i).mono hle⟩

theorem TRel.put {ι : Inj} {N : Nat} {t : T} {a : Act} (h : TRel ι N t a) {v v' : Value} (hv : VRel ι v v') (d : Option Nat) : TRel ι N (t.put N d v) (a.put d v') := by
  cases d with
  | none => exact h
  | some d =>
    refine ⟨by simp [Act.put, h.size], by simp [Act.put, h.defers], fun i => ?_⟩
    by_cases hd : d < N
    · simp only [T.put, hd, if_true, T.upd, Act.put]
      by_cases e : i = d
      · subst e
        have : i < a.tmps.size := by rw [h.size]; exact hd
        simpa [this] using hv
      · have := h.rel i
        rw [if_neg e]
        simpa [Array.getD_eq_getD_getElem?, Array.getElem?_setIfInBounds_ne (Ne.symm e)] using this
    · simp only [T.put, hd, if_false, Act.put]
      have := h.rel i
      have hs : a.tmps.setIfInBounds d v' = a.tmps := by
        apply Array.setIfInBounds_eq_of_size_le
        rw [h.size]; omega
      rw [hs]; exact this

theorem ev_sound {ι : Inj} {N : Nat} {t : T} {a : Act} (h : TRel ι N t a) {x : Operand} {v : Value} (he : ev t x = some v) : VRel ι v (a.eval x) := by
  cases x with
  | tmp i => simp only [ev, Option.some.injEq] at he; subst he; exact h.rel i
  | const u =>
    simp only [ev] at he
    split at he
    · rename_i hf; obtain rfl := Option.some.inj he; exact flat_refl hf
    · cases he
  | global g => cases he
  | func f => simp only [ev, Option.some.injEq] at he; subst he; exact .func _ rfl (fun i x x' p => by simp at p) rfl (fun i x x' p => by simp at p)

theorem evs_sound {ι : Inj} {N : Nat} {t : T} {a : Act} (h : TRel ι N t a) : ∀ {l : List Operand} {vs : List Value}, evs t l = some vs → LRel ι vs (l.map a.eval)
  | [], vs, he => by simp only [evs, Option.some.injEq] at he; subst he; exact LRel.nil ι
  | x :: l, vs, he => by
    simp only [evs] at he
    split at he
    · rename_i v vs' h1 h2
      obtain rfl := Option.some.inj he
      exact (evs_sound h h2).cons (ev_sound h h1)
    · cases he

def PRel (ι : Inj) (l l' : List (Nat × Value)) : Prop := l.length = l'.length ∧ ∀ (i : Nat) x x', l[i]? = some x → l'[i]? = some x' → x.1 = x'.1 ∧ VRel ι x.2 x'.2
theorem evp_sound {ι : Inj} {N : Nat} {t : T} {a : Act} (h : TRel ι N t a) : ∀ {l : List (Nat × Operand)} {vs : List (Nat × Value)}, evp t l = some vs → PRel ι vs (l.map fun (i, x) => (i, a.eval x))
  | [], vs, he => by simp only [evp, Option.some.injEq] at he; subst he; exact ⟨rfl, fun i x x' p => by simp at p⟩
  | (i, x) :: l, vs, he => by
    simp only [evp] at he
    split at he
    · rename_i v vs' h1 h2
      obtain rfl := Option.some.inj he
      have ih := evp_sound h h2
      refine ⟨by simp [ih.1], fun j y y' p q => ?_⟩
      cases j with
      | zero => simp at p q; subst p q; exact ⟨rfl, ev_sound h h1⟩
      | succ j => simp at p; exact ih.2 j y y' p (by simpa using q)
    · cases he
theorem evo_sound {ι : Inj} {N : Nat} {t : T} {a : Act} (h : TRel ι N t a) {x : Option Operand} {v : Option Value} (he : evo t x = some v) :
    (v = none ∧ x = none) ∨ ∃ y u, x = some y ∧ v = some u ∧ VRel ι u (a.eval y) := by
  cases x with
  | none => simp only [evo, Option.some.injEq] at he; exact .inl ⟨he.symm, rfl⟩
  | some y =>
    simp only [evo, Option.map_eq_some_iff] at he
    obtain ⟨u, hu, rfl⟩ := he
    exact .inr ⟨y, u, rfl, rfl, ev_sound h hu⟩

theorem pureRun_sound {α : Type} {P : Program} {s : Sem α} : ∀ {a : α}, pureRun P s = some a → ∀ w, s.run P w = .ok a w := by
  induction s with
  | pure x => intro a h w; simp only [pureRun, Option.some.injEq] at h; subst h; rfl
  | program k ih => intro a h w; exact ih P h w
  | mark m k ih => intro a h w; exact ih h w
  | _ => intro a h; simp [pureRun] at h

/-- what an operation's run must come to -/
def VOk (ι : Inj) (h : AH) (w : World) (r : Result Next) (v : Value) (h' : AH) : Prop :=
  ∃ v' w' ι', (r = .ok (.value v') w' ∨ (r = .ok .skip w' ∧ v' = undef)) ∧ VRel ι' v v' ∧ HRel ι' h' w' ∧ Ext ι h w ι' h' w'

theorem VOk.same {ι : Inj} {h : AH} {w : World} {r : Result Next} {v v' : Value} (hr : HRel ι h w) (hrun : r = .ok (.value v') w) (hv : VRel ι v v') : VOk ι h w r v h :=
  ⟨v', w, ι, .inl hrun, hv, hr, Ext.refl ι h w⟩

theorem afall_sound {E : Env} {ι : Inj} {N : Nat} {t : T} {a : Act} (h : TRel ι N t a) {o : Oper} {v : Value} (hns : ∀ cs b, o.op ≠ .select cs b) (he : afall E t o = some v) (w : World) :
    (execOp a.eval o).run E.P w = .ok (.value v) w ∧ VRel ι v v := by
  unfold afall at he
  split at he
  · rename_i u hu
    split at hu
    · rename_i hall
      have heq : execOp a.eval o = execOp (fun x => (ev t x).getD undef) o := execOp_congr o hns fun x hx => by
        have := List.all_eq_true.1 hall x (by simpa using hx)
        unfold flatAt at this
        cases hv : ev t x with
        | none => simp [hv] at this
        | some z =>
          simp only [hv] at this
          rw [Option.getD_some]
          exact flat_eq this (ev_sound h hv)
      split at he
      · rename_i hf
        obtain rfl := Option.some.inj he
        rw [heq]
        exact ⟨pureRun_sound hu w, flat2_refl hf⟩
      · cases he
    · cases hu
  · cases he

theorem fastInt_sound {P : Program} {op : BinOp} {k : IntKind} {x y : Int} {v : Value} (h : fastInt op k x y = some v) (ty : TypeId) (w : World) (ox oy : Operand) :
    (do eqGuard op ty ox oy (.int k x) (.int k y); binOp op ty (.int k x) (.int k y) : Sem Value).run P w = .ok v w ∧ flat v = true := by
  cases op <;> simp only [fastInt, Option.some.injEq] at h <;> try (cases h; done)
  case quo =>
    split at h
    · cases h
    · rename_i hy
      obtain rfl := Option.some.inj h
      exact ⟨by simp [eqGuard, binOp, Op.intDiv, hy], rfl⟩
  case rem =>
    split at h
    · cases h
    · rename_i hy
      obtain rfl := Option.some.inj h
      exact ⟨by simp [eqGuard, binOp, Op.intDiv, hy], rfl⟩
  all_goals subst h; exact ⟨by simp [eqGuard, binOp, Op.intArith, Op.intCmp], rfl⟩

theorem isNil_rel {ι : Inj} {v v' : Value} {x : Bool} (h : VRel ι v v') (hx : isNilA v = some x) : isNil v' = some x := by
  cases h
  case slice b o n c c' I hb hn hc hxx hbb => cases c <;> first | (cases hx; done) | exact hx
  all_goals first | exact hx | (cases hx; done)
theorem nilFits_rel {ι : Inj} {d : TypeDesc} {v v' : Value} (h : VRel ι v v') : nilFits d v' = nilFits d v := by
  cases h <;> cases d <;> rfl

theorem nilEq_runD {P : Program} (n : Nat) {ty : TypeId} {d : TypeDesc} {a b : Value} {x y : Bool} (hu : P.underlying ty = some d) (hx : isNil a = some x) (hy : isNil b = some y)
    (h1 : nilFits d a = true) (h2 : nilFits d b = true) (h3 : x = true ∨ y = true) (w : World) : (Op.equalIn (n + 1) ty a b).run P w = .ok (x && y) w := by
  rw [Op.equalIn]
  rw [Sem.run_bind, run_underlying hu, Result.andThen_ok]
  cases d <;> simp only [nilFits, Bool.false_eq_true] at h1 h2
  case pointer e =>
    cases a <;> simp only [Bool.false_eq_true] at h1
    cases b <;> simp only [Bool.false_eq_true] at h2
    rename_i p q
    cases p <;> cases q <;> simp only [isNil, Option.isNone, Option.some.injEq] at hx hy <;> subst hx hy <;> simp_all
  case slice e =>
    cases a <;> simp only [Bool.false_eq_true] at h1
    cases b <;> simp only [Bool.false_eq_true] at h2
    rename_i p _ _ q _ _
    cases p <;> cases q <;> simp only [isNil, Option.isNone, Option.some.injEq] at hx hy <;> subst hx hy <;> simp_all
  case map e =>
    cases a <;> simp only [Bool.false_eq_true] at h1
    cases b <;> simp only [Bool.false_eq_true] at h2
    rename_i p q
    cases p <;> cases q <;> simp only [isNil, Option.isNone, Option.some.injEq] at hx hy <;> subst hx hy <;> simp_all
  case func e =>
    cases a <;> simp only [Bool.false_eq_true] at h1 <;> cases b <;> simp only [Bool.false_eq_true] at h2 <;>
      simp only [isNil, Option.some.injEq] at hx hy <;> subst hx hy <;> simp_all
theorem nilEq_run {P : Program} {ty : TypeId} {d : TypeDesc} {a b : Value} {x y : Bool} (hu : P.underlying ty = some d) (hx : isNil a = some x) (hy : isNil b = some y)
    (h1 : nilFits d a = true) (h2 : nilFits d b = true) (h3 : x = true ∨ y = true) (w : World) : (Op.equal ty a b).run P w = .ok (x && y) w :=
  nilEq_runD 9999 hu hx hy h1 h2 h3 w
theorem boolEq_run {P : Program} {ty : TypeId} (hu : P.underlying ty = some .bool) (x y : Bool) (w : World) : (Op.equal ty (.bool x) (.bool y)).run P w = .ok (x == y) w := by
  have : ∀ n, (Op.equalIn (n + 1) ty (.bool x) (.bool y)).run P w = .ok (x == y) w := fun n => by
    rw [Op.equalIn, Sem.run_bind, run_underlying hu, Result.andThen_ok]; rfl
  exact this 9999

theorem nilEq_sound {E : Env} (hE : E.Ok) {ι : Inj} {ty : TypeId} {a b a' b' : Value} {r : Bool} (ha : VRel ι a a') (hb : VRel ι b b') (h : nilEq E ty a b = some r) (w : World) :
    (Op.equal ty a' b').run E.P w = .ok r w ∧ (isNil a').isSome = true ∧ (isNil b').isSome = true := by
  unfold nilEq at h
  split at h
  · rename_i d x y hu hx hy
    split at h
    · rename_i hc
      obtain rfl := Option.some.inj h
      simp only [Bool.and_eq_true, Bool.or_eq_true] at hc
      refine ⟨nilEq_run (hE.under _ _ hu) (isNil_rel ha hx) (isNil_rel hb hy) ((nilFits_rel ha).trans hc.1.1) ((nilFits_rel hb).trans hc.1.2) hc.2 w, ?_, ?_⟩
      · rw [isNil_rel ha hx]; rfl
      · rw [isNil_rel hb hy]; rfl
    · cases h
  · cases h

theorem eqGuard_nil {P : Program} {op : BinOp} {ty : TypeId} {ox oy : Operand} {a b : Value} (ha : (isNil a).isSome = true) (w : World) :
    (eqGuard op ty ox oy a b).run P w = .ok () w := by
  unfold eqGuard
  cases op <;> simp
  all_goals (cases a <;> simp [isNil] at ha <;> simp)

theorem fastBin_sound {E : Env} (hE : E.Ok) {ι : Inj} {op : BinOp} {ty : TypeId} {a b a' b' v : Value} (ha : VRel ι a a') (hb : VRel ι b b') (h : fastBin E op ty a b = some v)
    (ox oy : Operand) (w : World) : (do eqGuard op ty ox oy a' b'; binOp op ty a' b' : Sem Value).run E.P w = .ok v w ∧ VRel ι v v := by
  unfold fastBin at h
  split at h
  · rename_i k x k' y
    split at h
    · rename_i hk
      subst hk
      cases ha; cases hb
      have := fastInt_sound (P := E.P) h ty w ox oy
      exact ⟨this.1, flat_refl this.2⟩
    · cases h
  · rename_i x y
    cases ha; cases hb
    split at h
    · rename_i hu
      obtain rfl := Option.some.inj h
      exact ⟨by simp [eqGuard, binOp, boolEq_run (hE.under _ _ hu)], .bool _⟩
    · rename_i hu
      obtain rfl := Option.some.inj h
      exact ⟨by simp [eqGuard, binOp, boolEq_run (hE.under _ _ hu)], .bool _⟩
    · cases h
  · split at h
    · rename_i r hn
      obtain rfl := Option.some.inj h
      obtain ⟨he, hx, hy⟩ := nilEq_sound hE ha hb hn w
      refine ⟨?_, .bool _⟩
      rw [Sem.run_bind, eqGuard_nil hx]
      simp only [Result.andThen_ok]
      cases a' <;> simp [isNil] at hx <;> cases b' <;> simp [isNil] at hy <;> simp [binOp, he]
    · rename_i r hn
      obtain rfl := Option.some.inj h
      obtain ⟨he, hx, hy⟩ := nilEq_sound hE ha hb hn w
      refine ⟨?_, .bool _⟩
      rw [Sem.run_bind, eqGuard_nil hx]
      simp only [Result.andThen_ok]
      cases a' <;> simp [isNil] at hx <;> cases b' <;> simp [isNil] at hy <;> simp [binOp, he]
    · cases h

end Go.AM
