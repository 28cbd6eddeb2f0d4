/-
  AM, part 9: code. What the abstract machine's run comes to, the model's comes to.
-/
import Derived.Test.YtelcedajmnblbaaAm8
import Derived.Tactics
import Derived.LoopN
import Derived.ScopeJumps
import Derived.Deep.LoopGhost
set_option linter.unusedVariables false
set_option linter.unusedSimpArgs false
namespace Go.AM

theorem Res.sat_bind {α β : Type} {r : Res α} {f : α → Res β} {Q : β → Prop} : (r.bind f).Sat Q ↔ r.Sat (fun a => (f a).Sat Q) := by
  induction r with
  | fail => exact Iff.rfl
  | ret a => exact Iff.rfl
  | any n k ih => exact ⟨fun h i hi => (ih i).1 (h i hi), fun h i hi => (ih i).2 (h i hi)⟩
theorem Res.sat_mono {α : Type} {r : Res α} {Q Q' : α → Prop} (h : ∀ a, Q a → Q' a) (hs : r.Sat Q) : r.Sat Q' := by
  induction r with
  | fail => exact hs
  | ret a => exact h a hs
  | any n k ih => exact fun i hi => ih i (hs i hi)
theorem Res.sat_all {α : Type} {r : Res α} {q : α → Bool} (h : r.all q = true) : r.Sat (fun a => q a = true) := by
  induction r with
  | fail => simp [Res.all] at h
  | ret a => exact h
  | any n k ih => exact fun i hi => ih i (List.all_eq_true.1 h i (List.mem_range.2 hi))
theorem Res.sat_ofOption {α : Type} {o : Option α} {Q : α → Prop} (h : (Res.ofOption o).Sat Q) : ∃ a, o = some a ∧ Q a := by
  cases o with
  | none => exact h.elim
  | some a => exact ⟨a, rfl, h⟩

/-- a function that is entered when it is called -/
def Entered (P : Program) (g : FuncId) : Prop := ∃ fn, P.funcs[g]? = some fn ∧ (fn.name == "runtime.NumGoroutine") = false ∧ fn.body.isNone = false

theorem callFunc_run {P : Program} {g : FuncId} (h : Entered P g) (args : Array Value) (w : World) : (callFunc g args).run P w = .ok (.enter g args) w := by
  obtain ⟨fn, hf, hn, hb⟩ := h
  unfold callFunc
  simp only [Sem.run_bind, run_program, Result.andThen_ok, hf]
  rw [if_neg (by simpa using hn)]
  rw [if_neg (by rw [hb]; simp)]
  rfl

/-- what a call must come to -/
def CallPost (ι : Inj) (h : AH) (w : World) (Q : Value → AH → Prop) : Ending → World → Prop :=
  fun e w' => ∃ v h' v' ι', Q v h' ∧ e = .returned v' ∧ VRel ι' v v' ∧ HRel ι' h' w' ∧ Ext ι h w ι' h' w'

/-- the contract of a function, over the abstract machine's values -/
def ACalls (P : Program) (g : FuncId) (args : List Value) (h : AH) (Q : Value → AH → Prop) : Prop :=
  ∀ ι (args' : Array Value) w, LRel ι args args'.toList → HRel ι h w → Calls P g args' w (CallPost ι h w Q)

def SpecOk (P : Program) (g : FuncId) (s : Spec) : Prop :=
  Entered P g ∧ ∀ args h v h', s args h = some (v, h') → ACalls P g args h (fun v₁ h₁ => v₁ = v ∧ h₁ = h')

/-- what lies below lim stays -/
structure Kept (h h' : AH) : Prop where
  n_le : h.n ≤ h'.n
  lim : h'.lim = h.lim
  old : ∀ b, b < h.n → b < h.lim → h'.b b = h.b b

structure Env.Fine (E : Env) : Prop where
  ok : E.Ok
  kept : ∀ g s, E.spec g = some s → ∀ args h v h', s args h = some (v, h') → Kept h h'
  spec : ∀ g s, E.spec g = some s → SpecOk E.P g s
  name : ∀ g fn, E.func g = some fn → (fn.name == "runtime.NumGoroutine") = false

def Post (ι : Inj) (N : Nat) (h : AH) (w : World) (Q : Exit → T → AH → Prop) : Exit → Act → World → Prop :=
  fun e a' w' => ∃ t' h' ι', Q e t' h' ∧ TRel ι' N t' a' ∧ HRel ι' h' w' ∧ Ext ι h w ι' h' w'

def AWP (P : Program) (N : Nat) (c : Code) (t : T) (h : AH) (Q : Exit → T → AH → Prop) : Prop :=
  ∀ ι a w, TRel ι N t a → HRel ι h w → c.wp P (Post ι N h w Q) a w

theorem Post.mono {ι : Inj} {N : Nat} {h : AH} {w : World} {Q Q' : Exit → T → AH → Prop} (hq : ∀ e t h, Q e t h → Q' e t h) {e : Exit} {a : Act} {w' : World} (hp : Post ι N h w Q e a w') :
    Post ι N h w Q' e a w' := let ⟨t', h', ι', q, r⟩ := hp; ⟨t', h', ι', hq _ _ _ q, r⟩

theorem AWP.mono {P : Program} {N : Nat} {c : Code} {t : T} {h : AH} {Q Q' : Exit → T → AH → Prop} (ha : AWP P N c t h Q) (hq : ∀ e t h, Q e t h → Q' e t h) : AWP P N c t h Q' :=
  fun ι a w hT hr => Code.wp_mono (fun _ _ _ hp => hp.mono hq) (ha ι a w hT hr)

/-- behind a first stretch -/
theorem Post.shift {ι ι₁ : Inj} {N : Nat} {h h₁ : AH} {w w₁ : World} (hr : HRel ι h w) (hr₁ : HRel ι₁ h₁ w₁) (e : Ext ι h w ι₁ h₁ w₁) {Q : Exit → T → AH → Prop} {x : Exit} {a : Act} {w' : World}
    (hp : Post ι₁ N h₁ w₁ Q x a w') : Post ι N h w Q x a w' :=
  let ⟨t', h', ι', q, hT, hH, he⟩ := hp
  ⟨t', h', ι', q, hT, hH, e.trans hr hr₁ he⟩

/-! ### rules of AWP -/
theorem AWP.skip {P : Program} {N : Nat} {t : T} {h : AH} {Q : Exit → T → AH → Prop} (hq : Q .normal t h) : AWP P N .skip t h Q :=
  fun ι _ w hT hr => wp_skip ⟨t, h, ι, hq, hT, hr, Ext.refl ι h w⟩
theorem AWP.label {P : Program} {N : Nat} {l : Nat} {t : T} {h : AH} {Q : Exit → T → AH → Prop} (hq : Q .normal t h) : AWP P N (.label l) t h Q :=
  fun ι _ w hT hr => wp_label ⟨t, h, ι, hq, hT, hr, Ext.refl ι h w⟩
theorem AWP.exit {P : Program} {N id : Nat} {t : T} {h : AH} {Q : Exit → T → AH → Prop} (hq : Q (.exit id) t h) : AWP P N (.exit id) t h Q :=
  fun ι _ w hT hr => wp_exit ⟨t, h, ι, hq, hT, hr, Ext.refl ι h w⟩
theorem AWP.goto {P : Program} {N l : Nat} {t : T} {h : AH} {Q : Exit → T → AH → Prop} (hq : Q (.goto l) t h) : AWP P N (.goto l) t h Q :=
  fun ι _ w hT hr => wp_goto ⟨t, h, ι, hq, hT, hr, Ext.refl ι h w⟩
theorem AWP.ret {P : Program} {N : Nat} {t : T} {h : AH} {Q : Exit → T → AH → Prop} (hq : Q .ret t h) : AWP P N .ret t h Q :=
  fun ι _ w hT hr => wp_ret ⟨t, h, ι, hq, hT, hr, Ext.refl ι h w⟩

/-- the continuation of a sequence -/
def seqQ (K : T → AH → Prop) (Q : Exit → T → AH → Prop) : Exit → T → AH → Prop
  | .normal, t, h => K t h
  | e, t, h => Q e t h

theorem AWP.seq {P : Program} {N : Nat} {x y : Code} {t : T} {h : AH} {Q : Exit → T → AH → Prop} (hx : AWP P N x t h (seqQ (fun t h => AWP P N y t h Q) Q)) : AWP P N (.seq x y) t h Q := by
  intro ι a w hT hr
  refine wp_seq (Code.wp_mono (fun e a₁ w₁ hp => ?_) (hx ι a w hT hr))
  obtain ⟨t₁, h₁, ι₁, q, hT₁, hr₁, he⟩ := hp
  cases e with
  | normal => exact Code.wp_mono (fun _ _ _ hp => Post.shift hr hr₁ he hp) (q ι₁ a₁ w₁ hT₁ hr₁)
  | _ => exact ⟨t₁, h₁, ι₁, q, hT₁, hr₁, he⟩

theorem cond_eval {ι : Inj} {N : Nat} {t : T} {a : Act} (hT : TRel ι N t a) {c : Operand} {b : Bool} (hc : ev t c = some (.bool b)) : a.eval c = .bool b := by
  have := ev_sound hT hc
  cases hh : a.eval c <;> rw [hh] at this <;> cases this
  rfl

theorem AWP.cond {P : Program} {N : Nat} {c : Operand} {x y : Code} {t : T} {h : AH} {Q : Exit → T → AH → Prop} {b : Bool} (hc : ev t c = some (.bool b))
    (hx : AWP P N (if b then x else y) t h Q) : AWP P N (.cond c x y) t h Q :=
  fun ι a w hT hr => wp_cond (cond_eval hT hc) (hx ι a w hT hr)

def blockQ (id : Nat) (Q : Exit → T → AH → Prop) : Exit → T → AH → Prop
  | .exit id', t, h => if id' = id then Q .normal t h else Q (.exit id') t h
  | e, t, h => Q e t h

theorem AWP.block {P : Program} {N id : Nat} {c : Code} {t : T} {h : AH} {Q : Exit → T → AH → Prop} (hx : AWP P N c t h (blockQ id Q)) : AWP P N (.block id c) t h Q := by
  intro ι a w hT hr
  refine wp_block (Code.wp_mono (fun e a₁ w₁ hp => ?_) (hx ι a w hT hr))
  obtain ⟨t₁, h₁, ι₁, q, rest⟩ := hp
  cases e with
  | exit id' =>
    simp only [Exit.inBlock]
    simp only [blockQ] at q
    split
    · rename_i e; rw [if_pos e] at q; exact ⟨t₁, h₁, ι₁, q, rest⟩
    · rename_i e; rw [if_neg e] at q; exact ⟨t₁, h₁, ι₁, q, rest⟩
  | _ => exact ⟨t₁, h₁, ι₁, q, rest⟩

/-- a loop, by an invariant and a measure -/
theorem AWP.loop {P : Program} {N : Nat} {c : Code} {t : T} {h : AH} {Q : Exit → T → AH → Prop} (I : Nat → T → AH → Prop) (n : Nat) (h0 : I n t h)
    (round : ∀ n t h, I n t h → AWP P N c t h (seqQ (fun t' h' => ∃ m, m < n ∧ I m t' h') Q)) : AWP P N (.loop c) t h Q := by
  intro ι a w hT hr
  refine wp_loop_ghost (fun n a₁ w₁ => ∃ t₁ h₁ ι₁, I n t₁ h₁ ∧ TRel ι₁ N t₁ a₁ ∧ HRel ι₁ h₁ w₁ ∧ Ext ι h w ι₁ h₁ w₁) n ⟨t, h, ι, h0, hT, hr, Ext.refl ι h w⟩ ?_
  intro m a₁ w₁ ⟨t₁, h₁, ι₁, hI, hT₁, hr₁, he⟩
  refine Code.wp_mono (fun e a₂ w₂ hp => ?_) (round m t₁ h₁ hI ι₁ a₁ w₁ hT₁ hr₁)
  obtain ⟨t₂, h₂, ι₂, q, hT₂, hr₂, he₂⟩ := hp
  cases e with
  | normal =>
    obtain ⟨k, hk, hI₂⟩ := q
    exact ⟨k, hk, t₂, h₂, ι₂, hI₂, hT₂, hr₂, he.trans hr hr₁ he₂⟩
  | _ => exact ⟨t₂, h₂, ι₂, q, hT₂, hr₂, he.trans hr hr₁ he₂⟩

/-- a scope: jumps to its labels, at most n -/
def jumps (P : Program) (c : Code) (Q : Exit → Act → World → Prop) : Nat → Code → Act → World → Prop
  | 0, _, _, _ => False
  | n + 1, cur, a, w => cur.wp P (fun e a' w' => match e with
    | .goto l => ∃ rest, findLabel c l = some rest ∧ jumps P c Q n rest a' w'
    | e => Q e a' w') a w

theorem wp_scope_n {P : Program} {c : Code} {Q : Exit → Act → World → Prop} (n : Nat) {a : Act} {w : World} (h : jumps P c Q n c a w) : (Code.scope c).wp P Q a w := by
  intro b k cs
  have key : ∀ n cur a w, jumps P c Q n cur a w → ∃ e a' w', Q e a' w' ∧ Arrives P (lone (b.at a (.code cur :: .inScope c :: k)) cs w) b k cs e a' w' := by
    intro n
    induction n with
    | zero => intro cur a w h; exact h.elim
    | succ n ih =>
      intro cur a w h
      obtain ⟨e, a₁, w₁, hq, harr⟩ := h b (.inScope c :: k) cs
      cases e with
      | normal => exact ⟨.normal, a₁, w₁, hq, Steps.trans harr (.one step_inScope)⟩
      | exit id => exact ⟨.exit id, a₁, w₁, hq, fun k' hk => harr k' (by simp [exitTo, hk])⟩
      | goto l =>
        obtain ⟨rest, hf, hj⟩ := hq
        obtain ⟨e₂, a₂, w₂, hq₂, harr₂⟩ := ih rest a₁ w₁ hj
        exact ⟨e₂, a₂, w₂, hq₂, .of_steps (harr _ (by simp [gotoIn, hf])) harr₂⟩
      | ret => exact ⟨_, a₁, w₁, hq, harr⟩
      | panic ch => exact ⟨_, a₁, w₁, hq, harr⟩
      | outgrown => exact ⟨_, a₁, w₁, hq, harr⟩
  obtain ⟨e, a', w', hq, harr⟩ := key n c a w h
  cases e with
  | normal => exact ⟨_, a', w', hq, .head step_scope harr⟩
  | exit id => exact ⟨_, a', w', hq, fun k' hk => .head step_scope (harr k' hk)⟩
  | goto l => exact ⟨_, a', w', hq, fun k' hk => .head step_scope (harr k' hk)⟩
  | ret => exact ⟨_, a', w', hq, .of_steps (.one step_scope) harr⟩
  | panic ch => exact ⟨_, a', w', hq, .of_steps (.one step_scope) harr⟩
  | outgrown => exact ⟨_, a', w', hq, .of_steps (.one step_scope) harr⟩

/-- the way on behind a stretch of a scope's code -/
def gotoQ (c : Code) (K : Code → T → AH → Prop) (Q : Exit → T → AH → Prop) : Exit → T → AH → Prop
  | .goto l, t, h => ∃ rest, findLabel c l = some rest ∧ K rest t h
  | e, t, h => Q e t h

theorem AWP.scope {P : Program} {N : Nat} {c : Code} {t : T} {h : AH} {Q : Exit → T → AH → Prop} (I : Nat → Code → T → AH → Prop) (n : Nat) (h0 : I n c t h)
    (pass : ∀ n cur t h, I n cur t h → AWP P N cur t h (gotoQ c (fun rest t' h' => ∃ m, m < n ∧ I m rest t' h') Q)) : AWP P N (.scope c) t h Q := by
  intro ι a w hT hr
  have key : ∀ n n₀ cur t₁ h₁ ι₁ a₁ w₁, n₀ ≤ n → I n₀ cur t₁ h₁ → TRel ι₁ N t₁ a₁ → HRel ι₁ h₁ w₁ → Ext ι h w ι₁ h₁ w₁ → jumps P c (Post ι N h w Q) (n + 1) cur a₁ w₁ := by
    intro n
    induction n with
    | zero =>
      intro n₀ cur t₁ h₁ ι₁ a₁ w₁ hn hI hT₁ hr₁ he
      refine Code.wp_mono (fun e a₂ w₂ hp => ?_) (pass n₀ cur t₁ h₁ hI ι₁ a₁ w₁ hT₁ hr₁)
      obtain ⟨t₂, h₂, ι₂, q, hT₂, hr₂, he₂⟩ := hp
      cases e with
      | goto l => obtain ⟨rest, hf, m, hm, _⟩ := q; omega
      | _ => exact ⟨t₂, h₂, ι₂, q, hT₂, hr₂, he.trans hr hr₁ he₂⟩
    | succ n ih =>
      intro n₀ cur t₁ h₁ ι₁ a₁ w₁ hn hI hT₁ hr₁ he
      refine Code.wp_mono (fun e a₂ w₂ hp => ?_) (pass n₀ cur t₁ h₁ hI ι₁ a₁ w₁ hT₁ hr₁)
      obtain ⟨t₂, h₂, ι₂, q, hT₂, hr₂, he₂⟩ := hp
      cases e with
      | goto l =>
        obtain ⟨rest, hf, m, hm, hI₂⟩ := q
        exact ⟨rest, hf, ih m rest t₂ h₂ ι₂ a₂ w₂ (by omega) hI₂ hT₂ hr₂ (he.trans hr hr₁ he₂)⟩
      | _ => exact ⟨t₂, h₂, ι₂, q, hT₂, hr₂, he.trans hr hr₁ he₂⟩
  exact wp_scope_n (n + 1) (key n n c t h ι a w (Nat.le_refl _) h0 hT hr (Ext.refl ι h w))

/-! ### a function's body -/
theorem init_rel {ι : Inj} {args : List Value} {args' : Array Value} (h : LRel ι args args'.toList) (fn : Func) :
    TRel ι (Nof fn args.length) (T.init args) { tmps := args' ++ Array.replicate (fn.ntmps - args'.size) undef, defers := [] } := by
  have hs : args'.size = args.length := by have := h.1; simp at this; omega
  refine ⟨by simp [Nof, hs], rfl, fun i => ?_⟩
  unfold T.init
  have := h.getD i
  by_cases hi : i < args.length
  · have h1 : (args' ++ Array.replicate (fn.ntmps - args'.size) undef).getD i undef = (args'.toList[i]?).getD undef := by
      rw [Array.getD_eq_getD_getElem?, Array.getElem?_append_left (by omega)]; simp
    rw [h1]; exact this
  · have h1 : (args' ++ Array.replicate (fn.ntmps - args'.size) undef).getD i undef = undef := by
      rw [Array.getD_eq_getD_getElem?, Array.getElem?_append_right (by omega)]
      rw [Array.getElem?_replicate]
      split <;> rfl
    rw [h1, List.getElem?_eq_none (by omega)]
    exact undef_rel ι

theorem results_sound {E : Env} (hE : E.Ok) {ι : Inj} {N : Nat} {t : T} {a : Act} {h : AH} {w : World} (hT : TRel ι N t a) (hr : HRel ι h w) {fn : Func} {v : Value} (hv : aresults E fn t h = some v) :
    ∃ v', (results fn a.tmps).run E.P w = .ok v' w ∧ VRel ι v v' := by
  have one : ∀ {r : ResultVar} {v : Value}, aresult E h t r = some v → ∃ v', (match r with | .tmp t => pure (a.tmps.getD t undef) | .cell x ty => do loadVar ty (← asAddr (a.tmps.getD x undef)) : Sem Value).run E.P w = .ok v' w ∧ VRel ι v v' := by
    intro r v hr'
    cases r with
    | tmp i => simp only [aresult, Option.some.injEq] at hr'; subst hr'; exact ⟨_, rfl, hT.rel i⟩
    | cell x ty =>
      simp only [aresult] at hr'
      split at hr'
      · rename_i ad hx
        have hp := hT.rel x
        rw [hx] at hp
        cases hxx : a.tmps.getD x undef <;> rw [hxx] at hp <;> try (cases hp; done)
        rename_i q
        cases q with
        | none => cases hp
        | some ad' =>
          obtain ⟨v', hrun, hrel⟩ := loadVar_sound hE hr hp hr'
          refine ⟨v', ?_, hrel⟩
          simp only [Sem.run_bind, hxx, asAddr, Sem.run_pure, Result.andThen_ok, hrun]
      · cases hr'
  have list : ∀ {rs : List ResultVar} {vs : List Value}, aresultsL E h t rs = some vs → ∃ vs', (rs.mapM fun r => (match r with | .tmp t => pure (a.tmps.getD t undef) | .cell x ty => do loadVar ty (← asAddr (a.tmps.getD x undef)) : Sem Value)).run E.P w = .ok vs' w ∧ LRel ι vs vs' := by
    intro rs
    induction rs with
    | nil => intro vs h'; simp only [aresultsL, Option.some.injEq] at h'; subst h'; exact ⟨[], rfl, LRel.nil ι⟩
    | cons r rs ih =>
      intro vs h'
      simp only [aresultsL] at h'
      split at h'
      · rename_i u us h1 h2
        obtain rfl := Option.some.inj h'
        obtain ⟨u', hu, hur⟩ := one h1
        obtain ⟨us', hus, husr⟩ := ih h2
        exact ⟨u' :: us', by simp only [List.mapM_cons, Sem.run_bind, hu, Result.andThen_ok, hus, Sem.run_pure], husr.cons hur⟩
      · cases h'
  unfold aresults at hv
  have hmap : ∀ vs', (fn.results.toList.mapM fun r => (match r with | .tmp t => pure (a.tmps.getD t undef) | .cell x ty => do loadVar ty (← asAddr (a.tmps.getD x undef)) : Sem Value)).run E.P w = .ok vs' w →
      (results fn a.tmps).run E.P w = .ok (if h : vs'.toArray.size = 1 then vs'.toArray[0] else .tuple vs'.toArray) w := by
    intro vs' h'
    unfold results
    rw [Array.mapM_eq_mapM_toList]
    rw [Sem.run_bind, Sem.run_map]
    have e : (fn.results.toList.mapM fun r => (match r with | .tmp t => pure (a.tmps.getD t undef) | .cell x ty => do loadVar ty (← asAddr (a.tmps.getD x undef)) : Sem Value)).run E.P w = .ok vs' w := h'
    first
      | (rw [e]; rfl)
      | (erw [e]; rfl)
  split at hv
  · rename_i u hl
    obtain rfl := Option.some.inj hv
    obtain ⟨vs', hrun, hrel⟩ := list hl
    cases vs' with
    | nil => have := hrel.1; simp at this
    | cons y ys =>
      cases ys with
      | cons _ _ => have := hrel.1; simp at this
      | nil => exact ⟨y, by rw [hmap _ hrun]; rfl, hrel.tail.1⟩
  · rename_i us hne hl
    obtain rfl := Option.some.inj hv
    obtain ⟨vs', hrun, hrel⟩ := list hl
    refine ⟨.tuple vs'.toArray, ?_, .tuple (by simpa using hrel.1) (fun i x x' p q => hrel.2 i x x' (by simpa using p) (by simpa using q))⟩
    rw [hmap _ hrun, dif_neg]
    intro h1
    have h2 : us.length = 1 := by rw [hrel.1]; simpa using h1
    obtain ⟨u, rfl⟩ := List.length_eq_one_iff.1 h2
    exact hne u rfl
  · cases hv

/-- what the end of a body must give -/
def bodyQ (E : Env) (fn : Func) (Q : Value → AH → Prop) : Exit → T → AH → Prop
  | .normal, t, h => ∃ v, aresults E fn t h = some v ∧ Q v h
  | .ret, t, h => ∃ v, aresults E fn t h = some v ∧ Q v h
  | _, _, _ => False

theorem ACalls.of_body {E : Env} (hE : E.Ok) {g : FuncId} {fn : Func} {c : Code} {args : List Value} {h : AH} {Q : Value → AH → Prop} (hf : E.P.funcs[g]? = some fn) (hb : fn.body = some c)
    (hx : AWP E.P (Nof fn args.length) c (T.init args) h (bodyQ E fn Q)) : ACalls E.P g args h Q := by
  intro ι args' w hl hr
  refine calls_of_wp hf hb (Code.wp_mono (fun e a₁ w₁ hp => ?_) (hx ι _ w (init_rel hl fn) hr))
  obtain ⟨t₁, h₁, ι₁, q, hT₁, hr₁, he⟩ := hp
  cases e with
  | normal =>
    obtain ⟨v, hv, hq⟩ := q
    obtain ⟨v', hrun, hrel⟩ := results_sound hE hT₁ hr₁ hv
    exact ⟨hT₁.defers, v', hrun, v, h₁, v', ι₁, hq, rfl, hrel, hr₁, he⟩
  | ret =>
    obtain ⟨v, hv, hq⟩ := q
    obtain ⟨v', hrun, hrel⟩ := results_sound hE hT₁ hr₁ hv
    exact ⟨hT₁.defers, v', hrun, v, h₁, v', ι₁, hq, rfl, hrel, hr₁, he⟩
  | _ => exact q.elim

end Go.AM
