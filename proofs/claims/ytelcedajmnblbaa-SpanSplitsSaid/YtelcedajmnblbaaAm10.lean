/-
  AM, part 10: regions in the text's order; the evaluator is sound.
-/
import Derived.Test.YtelcedajmnblbaaAm9
set_option linter.unusedVariables false
set_option linter.unusedSimpArgs false
namespace Go.AM

def RecOk (P : Program) (r : Rec) : Prop := ∀ N c t h (Q : Exit → T → AH → Prop), (r N c t h).Sat (fun x => Q x.1 x.2.1 x.2.2) → AWP P N c t h Q

theorem acall_sound {E : Env} (hE : E.Fine) {r : Rec} (hr : RecOk E.P r) {g : FuncId} {args : List Value} {h : AH} {Q : Value → AH → Prop} (ha : (acall E r g args h).Sat (fun x => Q x.1 x.2)) :
    Entered E.P g ∧ ACalls E.P g args h Q := by
  unfold acall at ha
  split at ha
  · rename_i s hs
    obtain ⟨⟨v, h'⟩, e, q⟩ := Res.sat_ofOption ha
    obtain ⟨hent, hc⟩ := hE.spec g s hs
    refine ⟨hent, fun ι args' w hl hrl => Calls.mono (hc args h v h' e ι args' w hl hrl) ?_⟩
    rintro e w' ⟨v₁, h₁, v', ι', ⟨rfl, rfl⟩, rest⟩
    exact ⟨v₁, h₁, v', ι', q, rest⟩
  · split at ha
    · rename_i fn hf
      split at ha
      · rename_i c hb
        have hfn := hE.ok.func _ _ hf
        refine ⟨⟨fn, hfn, hE.name _ _ hf, by simp [hb]⟩, ACalls.of_body hE.ok hfn hb (hr _ _ _ _ _ ?_)⟩
        rw [Res.sat_bind] at ha
        refine Res.sat_mono (fun x hx => ?_) ha
        obtain ⟨e, t', h'⟩ := x
        cases e <;> simp only [Res.Sat] at hx
        · simp only [bodyQ]
          cases hv : aresults E fn t' h' with
          | none => simp [hv, Res.Sat] at hx
          | some v => simp only [hv, Res.Sat] at hx; exact ⟨v, rfl, hx⟩
        · simp only [bodyQ]
          cases hv : aresults E fn t' h' with
          | none => simp [hv, Res.Sat] at hx
          | some v => simp only [hv, Res.Sat] at hx; exact ⟨v, rfl, hx⟩
      · exact ha.elim
    · exact ha.elim

theorem step_of_vok {P : Program} {ι : Inj} {h h' : AH} {a a₀ : Act} {w : World} {o : Oper} {v : Value} {next : Act → World → Prop} {Qx : Exit → Act → World → Prop}
    (heq : execOp a.eval o = execOp a₀.eval o) (hv : VOk ι h w ((execOp a₀.eval o).run P w) v h')
    (hn : ∀ v' w' ι', VRel ι' v v' → HRel ι' h' w' → Ext ι h w ι' h' w' → next (a.put o.dst v') w') : o.wp P a w next Qx := by
  obtain ⟨v', w', ι', hrun, hrel, hH, he⟩ := hv
  unfold Oper.wp
  rw [heq]
  rcases hrun with hrun | ⟨hrun, rfl⟩
  · rw [hrun]; exact hn v' w' ι' hrel hH he
  · rw [hrun]; exact hn undef w' ι' hrel hH he

/-- one operation; its operands read in a₀, its result put into a -/
theorem step_sound {E : Env} (hE : E.Fine) {r : Rec} (hr : RecOk E.P r) {ι : Inj} {N : Nat} {t : T} {a a₀ : Act} {h : AH} {w : World} (hT : TRel ι N t a₀) (hH : HRel ι h w) {o : Oper}
    (heq : execOp a.eval o = execOp a₀.eval o)
    {Q : Value × AH → Prop} (hs : (astep E r o t h).Sat Q) {next : Act → World → Prop} {Qx : Exit → Act → World → Prop}
    (hn : ∀ v h' v' w' ι', Q (v, h') → VRel ι' v v' → HRel ι' h' w' → Ext ι h w ι' h' w' → next (a.put o.dst v') w') : o.wp E.P a w next Qx := by
  have opt : ∀ {x : Option (Value × AH)}, (Res.ofOption x).Sat Q → (∀ v h', x = some (v, h') → VOk ι h w ((execOp a₀.eval o).run E.P w) v h') → o.wp E.P a w next Qx := by
    intro x hx hv
    obtain ⟨⟨v, h'⟩, e, q⟩ := Res.sat_ofOption hx
    exact step_of_vok heq (hv v h' e) (fun v' w' ι' a b c => hn v h' v' w' ι' q a b c)
  unfold astep at hs
  split at hs
  · rename_i f args tys hop
    split at hs
    · rename_i g first captured as hf hargs
      have hfv := ev_sound hT hf
      have hav := evs_sound hT hargs
      have hfall : (Res.ofOption (same h (afall E t o))).Sat Q → o.wp E.P a w next Qx := fun hx => opt hx fun v h' e => by
        obtain ⟨e1, rfl⟩ := same_some e
        have := afall_sound hT (fun cs b h => by rw [hop] at h; cases h) e1 w
        exact VOk.same hH this.1 this.2
      generalize hc : acall E r g (first.toList ++ as ++ captured.toList) h = rc at hs
      have hcall : rc.Sat Q → o.wp E.P a w next Qx := fun hx => by
        rw [← hc] at hx
        obtain ⟨hent, hcalls⟩ := acall_sound hE hr (Q := fun v h => Q (v, h)) hx
        cases hff : a₀.eval f <;> rw [hff] at hfv <;> try (cases hfv; done)
        rename_i fn f' c'
        cases hfv with
        | func _ h1 h1' h2 h2' =>
          have hrun : (execOp a₀.eval o).run E.P w = .ok (.enter g (f' ++ args.map a₀.eval ++ c')) w := by
            obtain ⟨dst, op, type, pos, after, guard⟩ := o
            simp only at hop
            subst hop
            simp only [execOp, resolve, hff, Deferred.ofValue, pure_bind, invoke]
            exact callFunc_run hent _ w
          unfold Oper.wp
          rw [heq, hrun]
          have hl : LRel ι (first.toList ++ as ++ captured.toList) (f' ++ args.map a₀.eval ++ c').toList := by
            have l1 : LRel ι first.toList f'.toList := ⟨by simpa using h1, fun i x x' p q => h1' i x x' (by simpa using p) (by simpa using q)⟩
            have l2 : LRel ι captured.toList c'.toList := ⟨by simpa using h2, fun i x x' p q => h2' i x x' (by simpa using p) (by simpa using q)⟩
            have := (l1.append hav).append l2
            simpa using this
          refine Calls.mono (hcalls ι _ w hl hH) ?_
          rintro e w' ⟨v, h', v', ι', q, rfl, hrel, hH', he⟩
          exact hn v h' v' w' ι' q hrel hH' he
      cases rc with
      | fail => exact hfall hs
      | ret x => exact hcall hs
      | any n k => exact hcall hs
    · exact hs.elim
  · exact opt hs fun v h' e => aop_sound hE.ok hT hH e

theorem wanted_rel {ι : Inj} {N : Nat} {t : T} {a : Act} (hT : TRel ι N t a) (ops : Array Oper) (o : Oper) : Region.wanted o (yielded ops a.tmps) = wantedA ops.toList t o := by
  have hy : ∀ j, yielded ops a.tmps j = yieldedA ops.toList t j := by
    intro j
    unfold yielded yieldedA
    have : ops.toList[j]? = ops[j]? := by simp
    rw [this]
    cases hd : (ops[j]?).bind (·.dst) with
    | none => rfl
    | some d =>
      have hrel := hT.rel d
      simp only [Option.bind_some]
      by_cases hlt : d < a.tmps.size
      · have e : a.tmps[d]? = some (a.tmps.getD d undef) := by simp [hlt]
        rw [e]
        generalize a.tmps.getD d undef = x at hrel
        generalize t d = y at hrel
        cases hrel <;> rfl
      · have e : a.tmps[d]? = none := by simp [Nat.le_of_not_lt hlt]
        have e2 : a.tmps.getD d undef = undef := by simp [Nat.le_of_not_lt hlt]
        rw [e2] at hrel
        rw [e]
        generalize t d = y at hrel
        unfold undef at hrel
        cases hrel
        rfl
  unfold Region.wanted wantedA
  cases o.guard with
  | none => rfl
  | some g => simp only [hy]

theorem ops_sound {E : Env} (hE : E.Fine) {r : Rec} (hr : RecOk E.P r) {N : Nat} {ops : Array Oper} {Q : T × AH → Prop} {Qx : Exit → Act → World → Prop} :
    ∀ (os : List Oper) (t : T) (h : AH), (aopsGo E r N ops.toList os t h).Sat Q → ∀ (ι : Inj) (a : Act) (w : World), TRel ι N t a → HRel ι h w →
      (∀ t' h' a' w' ι', Q (t', h') → TRel ι' N t' a' → HRel ι' h' w' → Ext ι h w ι' h' w' → Qx .normal a' w') → wpList E.P ops Qx os a w
  | [], t, h, hs, ι, a, w, hT, hH, hq => hq t h a w ι hs hT hH (Ext.refl ι h w)
  | o :: os, t, h, hs, ι, a, w, hT, hH, hq => by
    simp only [wpList, wanted_rel hT]
    simp only [aopsGo] at hs
    split
    · rename_i hw
      rw [if_pos hw] at hs
      rw [Res.sat_bind] at hs
      refine .inl (step_sound hE hr hT hH rfl hs ?_)
      intro v h' v' w' ι' q hrel hH' he
      exact ops_sound hE hr os _ h' q ι' _ w' ((hT.mono he.le).put hrel o.dst) hH' (fun t'' h'' a'' w'' ι'' q' hT'' hH'' he'' => hq t'' h'' a'' w'' ι'' q' hT'' hH'' (he.trans hH hH' he''))
    · rename_i hw
      rw [if_neg hw] at hs
      exact ops_sound hE hr os _ h hs ι _ w (hT.put (undef_rel ι) o.dst) hH hq

/-- what lies below lim stays, whatever comes out -/
def Res.Safe {α : Type} : Res α → (α → Prop) → Prop
  | .fail, _ => True
  | .ret a, Q => Q a
  | .any n k, Q => ∀ i, i < n → (k i).Safe Q
def Keeps (r : Rec) : Prop := ∀ N c t h, (r N c t h).Safe (fun x => Kept h x.2.2)

/-- what the regions that draw their order must keep -/
def DrawSound (E : Env) : Prop :=
  ∀ (r : Rec), RecOk E.P r → Keeps r → ∀ (N id : Nat) (ops : Array Oper) (t : T) (h : AH) (Q : Exit → T → AH → Prop), drawOk ops.toList = true →
    (aopsD E r N ops.toList (masks ops.toList []) 0 ops.toList t h).Sat (fun x => Q .normal x.1 x.2) → AWP E.P N (.region id ops true) t h Q

theorem region_sound {E : Env} (hE : E.Fine) {r : Rec} (hr : RecOk E.P r) {N id : Nat} {ops : Array Oper} {t : T} {h : AH} {Q : Exit → T → AH → Prop}
    (hs : (aopsGo E r N ops.toList ops.toList t h).Sat (fun x => Q .normal x.1 x.2)) : AWP E.P N (.region id ops false) t h Q := by
  intro ι a w hT hH
  refine wp_region_list (ops_sound hE hr ops.toList t h hs ι a w hT hH ?_)
  intro t' h' a' w' ι' q hT' hH' he
  exact ⟨t', h', ι', q, hT', hH', he⟩

theorem loop_sound {P : Program} {r : Rec} (hr : RecOk P r) {N : Nat} {c : Code} {n : Nat} {t : T} {h : AH} {Q : Exit → T → AH → Prop}
    (hs : (aloop r N c n t h).Sat (fun x => Q x.1 x.2.1 x.2.2)) : AWP P N (.loop c) t h Q := by
  refine AWP.loop (fun n t h => (aloop r N c n t h).Sat (fun x => Q x.1 x.2.1 x.2.2)) n hs ?_
  intro n t h hI
  cases n with
  | zero => exact hI.elim
  | succ n =>
    simp only [aloop, Res.sat_bind] at hI
    refine hr N c t h _ (Res.sat_mono (fun x hx => ?_) hI)
    obtain ⟨e, t', h'⟩ := x
    cases e <;> first | exact ⟨n, Nat.lt_succ_self n, hx⟩ | exact hx

theorem scope_sound {P : Program} {r : Rec} (hr : RecOk P r) {N : Nat} {c : Code} {n : Nat} {t : T} {h : AH} {Q : Exit → T → AH → Prop}
    (hs : (ascope r N c n c t h).Sat (fun x => Q x.1 x.2.1 x.2.2)) : AWP P N (.scope c) t h Q := by
  refine AWP.scope (fun n cur t h => (ascope r N c n cur t h).Sat (fun x => Q x.1 x.2.1 x.2.2)) n hs ?_
  intro n cur t h hI
  cases n with
  | zero => exact hI.elim
  | succ n =>
    simp only [ascope, Res.sat_bind] at hI
    refine hr N cur t h _ (Res.sat_mono (fun x hx => ?_) hI)
    obtain ⟨e, t', h'⟩ := x
    cases e with
    | goto l =>
      simp only at hx
      cases hl : findLabel c l with
      | none => simp [hl, Res.Sat] at hx
      | some rest => simp only [hl] at hx; exact ⟨rest, hl, n, Nat.lt_succ_self n, hx⟩
    | _ => exact hx

theorem body_sound {E : Env} (hE : E.Fine) (hD : DrawSound E) {r : Rec} (hr : RecOk E.P r) (hk : Keeps r) (k : Nat) : RecOk E.P (fun N c t h => abody E k r N c t h) := by
  intro N c t h Q hs
  cases c <;> simp only [abody] at hs
  case skip => exact AWP.skip hs
  case label l => exact AWP.label hs
  case exit id => exact AWP.exit hs
  case goto l => exact AWP.goto hs
  case ret => exact AWP.ret hs
  case region id ops draw =>
    cases draw with
    | false =>
      simp only [Bool.false_eq_true, if_false, Res.sat_bind] at hs
      exact region_sound hE hr hs
    | true =>
      simp only [if_true] at hs
      split at hs
      · rename_i hd
        rw [Res.sat_bind] at hs
        exact hD r hr hk N id ops t h Q hd hs
      · exact hs.elim
  case seq a b =>
    rw [Res.sat_bind] at hs
    refine AWP.seq (hr N a t h _ (Res.sat_mono (fun x hx => ?_) hs))
    obtain ⟨e, t', h'⟩ := x
    cases e <;> first | exact hr N b t' h' _ hx | exact hx
  case cond x a b =>
    split at hs
    · rename_i hc; exact AWP.cond hc (hr N a t h _ hs)
    · rename_i hc; exact AWP.cond hc (hr N b t h _ hs)
    · exact hs.elim
  case block id c =>
    rw [Res.sat_bind] at hs
    refine AWP.block (hr N c t h _ (Res.sat_mono (fun x hx => ?_) hs))
    obtain ⟨e, t', h'⟩ := x
    cases e with
    | exit id' =>
      simp only [blockQ] at hx ⊢
      split
      · rename_i e; rw [if_pos e] at hx; exact hx
      · rename_i e; rw [if_neg e] at hx; exact hx
    | _ => exact hx
  case loop c => exact loop_sound hr hs
  case scope c => exact scope_sound hr hs
  case rangeFunc => exact hs.elim
  case refuse => exact hs.elim

end Go.AM
