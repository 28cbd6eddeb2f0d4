/-
  AM, part 11: what lies below lim stays.
-/
import Derived.Test.YtelcedajmnblbaaAm10
set_option linter.unusedVariables false
set_option linter.unusedSimpArgs false
namespace Go.AM

theorem Kept.refl (h : AH) : Kept h h := ⟨Nat.le_refl _, rfl, fun _ _ _ => rfl⟩
theorem Kept.trans {a b c : AH} (h : Kept a b) (h' : Kept b c) : Kept a c :=
  ⟨Nat.le_trans h.n_le h'.n_le, h'.lim.trans h.lim, fun x h1 h2 => (h'.old x (Nat.lt_of_lt_of_le h1 h.n_le) (by rw [h.lim]; exact h2)).trans (h.old x h1 h2)⟩
theorem Kept.push (h : AH) (k : ABlk) : Kept h (h.push k) := ⟨by simp [AH.push], rfl, fun b hb _ => by simp [AH.push, Nat.ne_of_lt hb]⟩
theorem Kept.upd (h : AH) {b : Nat} (hb : h.lim ≤ b) (k : ABlk) : Kept h (h.upd b k) := ⟨Nat.le_refl _, rfl, fun x _ hx => by
  have : x ≠ b := by omega
  simp [AH.upd, this]⟩
theorem setN_kept {h h' : AH} {a : Addr} {vs : List Value} (hs : h.setN a vs = some h') : Kept h h' := by
  unfold AH.setN at hs
  split at hs
  · split at hs
    · rename_i hc
      obtain rfl := Option.some.inj hs
      exact Kept.upd h hc.2.2 _
    · cases hs
  · cases hs
theorem same_kept {h h' : AH} {o : Option Value} {v : Value} (hs : same h o = some (v, h')) : Kept h h' := by
  obtain ⟨_, rfl⟩ := same_some hs
  exact Kept.refl _

theorem append_kept {E : Env} {h h' : AH} {sT xT : TypeId} {s x v : Value} (ha : aappend E h sT xT s x = some (v, h')) : Kept h h' := by
  unfold aappend at ha
  split at ha
  case h_2 => cases ha
  split at ha
  case h_2 => cases ha
  split at ha
  case isFalse => cases ha
  split at ha
  case h_2 => cases ha
  split at ha
  case isFalse => cases ha
  split at ha
  · split at ha
    · simp only [Option.some.injEq, Prod.mk.injEq] at ha; rw [← ha.2]; exact Kept.refl _
    · simp only [Option.some.injEq, Prod.mk.injEq] at ha; rw [← ha.2]; exact Kept.push _ _
  · split at ha
    · split at ha
      · simp only [Option.some.injEq, Prod.mk.injEq] at ha; rw [← ha.2]; exact Kept.refl _
      · simp only [Option.some.injEq, Prod.mk.injEq] at ha; rw [← ha.2]; exact Kept.push _ _
    split at ha
    case h_2 => cases ha
    split at ha
    · cases ha
    split at ha
    · split at ha
      · simp only [Option.some.injEq, Prod.mk.injEq] at ha; rw [← ha.2]; exact Kept.refl _
      · split at ha
        · simp only [Option.map_eq_some_iff, Prod.mk.injEq] at ha
          obtain ⟨h2, hs, _, rfl⟩ := ha
          exact setN_kept hs
        · cases ha
    · split at ha
      · rename_i hc
        split at ha
        · cases ha
        · rename_i hk
          simp only [Option.some.injEq, Prod.mk.injEq] at ha
          rw [← ha.2]
          exact (Kept.upd h (Nat.le_of_not_lt fun hlt => hk ⟨hc, .inr hlt⟩) _).trans (Kept.push _ _)
      · split at ha
        · cases ha
        · simp only [Option.some.injEq, Prod.mk.injEq] at ha
          rw [← ha.2]
          exact Kept.push _ _

theorem copy_kept {E : Env} {h h' : AH} {dT : TypeId} {d x v : Value} (ha : acopy E h dT d x = some (v, h')) : Kept h h' := by
  unfold acopy at ha
  split at ha
  case h_2 => cases ha
  split at ha
  case h_2 => cases ha
  split at ha
  case isFalse => cases ha
  split at ha
  case h_2 => cases ha
  split at ha
  · simp only [Option.some.injEq, Prod.mk.injEq] at ha; rw [← ha.2]; exact Kept.refl _
  · split at ha
    · simp only [Option.some.injEq, Prod.mk.injEq] at ha; rw [← ha.2]; exact Kept.refl _
    · simp only [Option.map_eq_some_iff, Prod.mk.injEq] at ha
      obtain ⟨h2, hs, _, rfl⟩ := ha
      exact setN_kept hs

theorem aop_kept {E : Env} {t : T} {h h' : AH} {o : Oper} {v : Value} (ha : aop E t h o = some (v, h')) : Kept h h' := by
  obtain ⟨dst, op, type, pos, after, guard⟩ := o
  cases op <;> simp only [aop] at ha <;> try (cases ha; done)
  case move x => exact same_kept ha
  case assign x => exact same_kept ha
  case pick c x y => split at ha <;> first | exact same_kept ha | cases ha
  case alloc elem =>
    split at ha
    · split at ha
      · simp only [Option.some.injEq, Prod.mk.injEq] at ha; rw [← ha.2]; exact Kept.push _ _
      · cases ha
    · cases ha
  case box elem x =>
    split at ha
    · simp only [Option.some.injEq, Prod.mk.injEq] at ha; rw [← ha.2]; exact Kept.push _ _
    · cases ha
  case build => split at ha <;> first | exact same_kept ha | cases ha
  case buildSlice =>
    split at ha
    · unfold abuildSlice at ha
      split at ha
      · split at ha
        · split at ha
          · split at ha
            · simp only [Option.some.injEq, Prod.mk.injEq] at ha; rw [← ha.2]; exact Kept.push _ _
            · cases ha
          · cases ha
        · cases ha
      · cases ha
    · cases ha
  case load => split at ha <;> first | exact same_kept ha | cases ha
  case store =>
    split at ha
    · split at ha
      · rename_i h2 hs
        simp only [Option.some.injEq, Prod.mk.injEq] at ha
        rw [← ha.2]
        unfold astore at hs
        split at hs
        · split at hs
          · exact setN_kept hs
          · cases hs
        · cases hs
      · cases ha
    · cases ha
  case nilCheck =>
    split at ha
    · simp only [Option.some.injEq, Prod.mk.injEq] at ha; rw [← ha.2]; exact Kept.refl _
    · cases ha
  case binOp =>
    split at ha
    · rcases orElse_some ha with h1 | ⟨_, h1⟩ <;> exact same_kept h1
    · cases ha
  case unOp => exact same_kept ha
  case convert => exact same_kept ha
  case makeFunc =>
    split at ha
    · simp only [Option.some.injEq, Prod.mk.injEq] at ha; rw [← ha.2]; exact Kept.refl _
    · cases ha
  case makeSlice =>
    split at ha
    · unfold amakeSlice at ha
      split at ha
      · split at ha
        · split at ha
          · simp only [Option.some.injEq, Prod.mk.injEq] at ha; rw [← ha.2]; exact Kept.push _ _
          · cases ha
        · cases ha
      · cases ha
    · cases ha
  case slice => split at ha <;> first | exact same_kept ha | cases ha
  case fieldAddr => split at ha <;> first | exact same_kept ha | cases ha
  case field => split at ha <;> first | exact same_kept ha | cases ha
  case indexAddr => split at ha <;> first | exact same_kept ha | cases ha
  case index =>
    split at ha
    · rcases orElse_some ha with h1 | ⟨_, h1⟩ <;> exact same_kept h1
    · cases ha
  case extract => split at ha <;> first | exact same_kept ha | cases ha
  case call c =>
    obtain ⟨callee, args, argTypes⟩ := c
    cases callee <;> simp only at ha <;> try (cases ha; done)
    split at ha
    · rcases orElse_some ha with h1 | ⟨_, h1⟩
      · unfold abuiltin at h1
        split at h1
        · split at h1
          · simp only [Option.some.injEq, Prod.mk.injEq] at h1; rw [← h1.2]; exact Kept.refl _
          · cases h1
        · simp only [Option.map_eq_some_iff, Prod.mk.injEq] at h1; obtain ⟨_, _, _, rfl⟩ := h1; exact Kept.refl _
        · simp only [Option.map_eq_some_iff, Prod.mk.injEq] at h1; obtain ⟨_, _, _, rfl⟩ := h1; exact Kept.refl _
        · exact append_kept h1
        · exact copy_kept h1
        · cases h1
      · exact same_kept h1
    · cases ha

theorem Res.safe_bind {α β : Type} {r : Res α} {f : α → Res β} {Q : β → Prop} (h : r.Safe (fun a => (f a).Safe Q)) : (r.bind f).Safe Q := by
  induction r with
  | fail => trivial
  | ret a => exact h
  | any n k ih => exact fun i hi => ih i (h i hi)
theorem Res.safe_mono {α : Type} {r : Res α} {Q Q' : α → Prop} (hq : ∀ a, Q a → Q' a) (h : r.Safe Q) : r.Safe Q' := by
  induction r with
  | fail => trivial
  | ret a => exact hq a h
  | any n k ih => exact fun i hi => ih i (h i hi)
theorem safe_ofOption {h : AH} {x : Option (Value × AH)} (hx : ∀ v h', x = some (v, h') → Kept h h') : (Res.ofOption x).Safe (fun y => Kept h y.2) := by
  cases x with
  | none => trivial
  | some y => exact hx y.1 y.2 rfl

theorem acall_safe {E : Env} (hE : E.Fine) {r : Rec} (hr : Keeps r) (g : FuncId) (args : List Value) (h : AH) : (acall E r g args h).Safe (fun y => Kept h y.2) := by
  unfold acall
  split
  · rename_i s hs
    exact safe_ofOption fun v h' e => hE.kept g s hs args h v h' e
  · split
    · split
      · refine Res.safe_bind (Res.safe_mono (fun x hx => ?_) (hr _ _ _ h))
        obtain ⟨e, t', h'⟩ := x
        cases e <;> simp only <;> first | trivial | (split <;> first | exact hx | trivial)
      · trivial
    · trivial

theorem astep_safe {E : Env} (hE : E.Fine) {r : Rec} (hr : Keeps r) (o : Oper) (t : T) (h : AH) : (astep E r o t h).Safe (fun y => Kept h y.2) := by
  unfold astep
  split
  · split
    · rename_i g first captured as _ _
      have := acall_safe hE hr g (first.toList ++ as ++ captured.toList) h
      split
      · exact safe_ofOption fun v h' e => same_kept e
      · exact this
    · trivial
  · exact safe_ofOption fun v h' e => aop_kept e

theorem opsGo_safe {E : Env} (hE : E.Fine) {r : Rec} (hr : Keeps r) (N : Nat) (ops : List Oper) : ∀ (os : List Oper) (t : T) (h : AH), (aopsGo E r N ops os t h).Safe (fun y => Kept h y.2)
  | [], t, h => Kept.refl h
  | o :: os, t, h => by
    simp only [aopsGo]
    split
    · refine Res.safe_bind (Res.safe_mono (fun x hx => ?_) (astep_safe hE hr o t h))
      exact Res.safe_mono (fun y hy => hx.trans hy) (opsGo_safe hE hr N ops os _ _)
    · exact opsGo_safe hE hr N ops os _ h

theorem Kept.shut {h h' : AH} (hk : Kept h.shut h') : Kept h (h'.reopen h.lim) := ⟨hk.n_le, rfl, fun b hb _ => hk.old b hb hb⟩

theorem opsD_safe {E : Env} (hE : E.Fine) {r : Rec} (hr : Keeps r) (N : Nat) (ops : List Oper) (ms : List Nat) : ∀ (os : List Oper) (j : Nat) (t : T) (h : AH), (aopsD E r N ops ms j os t h).Safe (fun y => Kept h y.2)
  | [], j, t, h => Kept.refl h
  | o :: os, j, t, h => by
    simp only [aopsD]
    split
    · split
      · have := astep_safe hE hr o t h.shut
        split
        · rename_i x hx
          rw [hx] at this
          exact Res.safe_mono (fun y hy => (Kept.shut this).trans hy) (opsD_safe hE hr N ops ms os _ _ _)
        · trivial
      · have := astep_safe hE hr o t h
        split
        · rename_i x hx
          rw [hx] at this
          exact Res.safe_mono (fun y hy => Kept.trans this hy) (opsD_safe hE hr N ops ms os _ _ _)
        · trivial
    · exact opsD_safe hE hr N ops ms os _ _ h

theorem loop_safe {r : Rec} (hr : Keeps r) (N : Nat) (c : Code) : ∀ (n : Nat) (t : T) (h : AH), (aloop r N c n t h).Safe (fun x => Kept h x.2.2)
  | 0, _, _ => trivial
  | n + 1, t, h => by
    simp only [aloop]
    refine Res.safe_bind (Res.safe_mono (fun x hx => ?_) (hr N c t h))
    obtain ⟨e, t', h'⟩ := x
    cases e <;> first | exact Res.safe_mono (fun y hy => Kept.trans hx hy) (loop_safe hr N c n t' h') | exact hx

theorem scope_safe {r : Rec} (hr : Keeps r) (N : Nat) (c : Code) : ∀ (n : Nat) (cur : Code) (t : T) (h : AH), (ascope r N c n cur t h).Safe (fun x => Kept h x.2.2)
  | 0, _, _, _ => trivial
  | n + 1, cur, t, h => by
    simp only [ascope]
    refine Res.safe_bind (Res.safe_mono (fun x hx => ?_) (hr N cur t h))
    obtain ⟨e, t', h'⟩ := x
    cases e with
    | goto l =>
      simp only
      split
      · exact Res.safe_mono (fun y hy => Kept.trans hx hy) (scope_safe hr N c n _ t' h')
      · trivial
    | _ => exact hx

theorem body_keeps {E : Env} (hE : E.Fine) {r : Rec} (hr : Keeps r) (k : Nat) : Keeps (fun N c t h => abody E k r N c t h) := by
  intro N c t h
  cases c <;> simp only [abody]
  case skip => exact Kept.refl h
  case label => exact Kept.refl h
  case exit => exact Kept.refl h
  case goto => exact Kept.refl h
  case ret => exact Kept.refl h
  case region id ops draw =>
    split
    · split
      · exact Res.safe_bind (Res.safe_mono (fun x hx => hx) (opsD_safe hE hr N ops.toList _ ops.toList 0 t h))
      · trivial
    · exact Res.safe_bind (Res.safe_mono (fun x hx => hx) (opsGo_safe hE hr N ops.toList ops.toList t h))
  case seq a b =>
    refine Res.safe_bind (Res.safe_mono (fun x hx => ?_) (hr N a t h))
    obtain ⟨e, t', h'⟩ := x
    cases e <;> first | exact Res.safe_mono (fun y hy => Kept.trans hx hy) (hr N b t' h') | exact hx
  case cond x a b => split <;> first | exact hr N _ t h | trivial
  case block id c =>
    refine Res.safe_bind (Res.safe_mono (fun x hx => ?_) (hr N c t h))
    obtain ⟨e, t', h'⟩ := x
    cases e with
    | exit id' => simp only; split <;> exact hx
    | _ => exact hx
  case loop c => exact loop_safe hr N c k t h
  case scope c => exact scope_safe hr N c k c t h
  case rangeFunc => trivial
  case refuse => trivial

theorem aexec_keeps {E : Env} (hE : E.Fine) : ∀ n, Keeps (aexec E n)
  | 0 => fun _ _ _ _ => trivial
  | n + 1 => body_keeps hE (aexec_keeps hE n) n

end Go.AM
