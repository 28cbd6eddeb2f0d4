/-
  AM, part 40: code with loops, symbolically: loops by forms at their heads.
-/
import Derived.Test.YtpbdnbnkojlbdaaAm39
set_option linter.unusedVariables false
set_option linter.unusedSimpArgs false
namespace Go.AM

def firstRegion : Code → Option Nat
  | .region id _ _ => some id
  | .seq a b | .cond _ a b => match firstRegion a with
    | some i => some i
    | none => firstRegion b
  | .block _ c | .loop c | .scope c => firstRegion c
  | _ => none

def writes : Code → List Nat
  | .region _ ops _ => ops.toList.filterMap (·.dst)
  | .seq a b | .cond _ a b => writes a ++ writes b
  | .block _ c | .loop c | .scope c => writes c
  | _ => []

abbrev CRec := Nat → Code → TS → SH → PC → Nat → List Nat → KX → Tree

def cloop (r : CRec) (N : Nat) (c : Code) : Nat → TS → SH → PC → Nat → List Nat → KX → Tree
  | 0, _, _, _, _, _, _ => .stuck 12
  | n + 1, τ, H, pc, fl, act, k => r N c τ H pc fl act fun e τ' H' pc' =>
    match e with
    | .normal => cloop r N c n τ' H' pc' fl act k
    | e => k e τ' H' pc'

def cscope (r : CRec) (N : Nat) (c : Code) : Nat → Code → TS → SH → PC → Nat → List Nat → KX → Tree
  | 0, _, _, _, _, _, _, _ => .stuck 10
  | n + 1, cur, τ, H, pc, fl, act, k => r N cur τ H pc fl act fun e τ' H' pc' =>
    match e with
    | .goto l => match findLabel c l with
      | some rest => cscope r N c n rest τ' H' pc' fl act k
      | none => .stuck 11
    | e => k e τ' H' pc'

/-- the end of a round -/
def cagain (cu : Cut) (W : List Nat) (N : Nat) (st : TS × SH) (k : KX) : KX := fun e τ' H' pc' =>
  match e with
  | .normal =>
    let st' := ghostAll cu (τ', H')
    match instOf cu W N st.1 st.2 st'.1 st'.2 with
    | some r => musts r.1 pc' fun _ => .again cu.key cu.lo cu.cnt r.2.1
    | none => .stuck 32
  | e => k e τ' H' pc'

def ccut (r : CRec) (N : Nat) (c : Code) (cu : Cut) (τ : TS) (H : SH) (pc : PC) (fl : Nat) (act : List Nat) (k : KX) : Tree :=
  if Nat.blt cu.lo fl || act.contains cu.key then .stuck 30 else
  let W := writes c
  let st := ghostAll cu (τ, H)
  match instOf cu W N st.1 st.2 st.1 st.2 with
  | none => .stuck 31
  | some i => musts i.1 pc fun pc' => .loop cu.key cu.lo cu.cnt i.2.1
      (r N c (patT cu W N st.2.n st.1) (patH cu st.2) (pc'.filter fun p => p.1.upto cu.lo) (cu.lo + cu.cnt) (cu.key :: act) (cagain cu W N st k))

def cexec (S : SE) (cut : Nat → Option Cut) : Nat → CRec
  | 0 => fun _ _ _ _ _ _ _ _ => .stuck 16
  | n + 1 => fun N c τ H pc fl act k =>
    match c with
    | .seq a b => cexec S cut n N a τ H pc fl act fun e τ' H' pc' =>
      match e with
      | .normal => cexec S cut n N b τ' H' pc' fl act k
      | e => k e τ' H' pc'
    | .cond x a b => match sev τ x with
      | some (.one (.one (.sc .bool y))) => sbranch y pc (fun pc => cexec S cut n N a τ H pc fl act k) (fun pc => cexec S cut n N b τ H pc fl act k)
      | _ => .stuck 14
    | .block id c => cexec S cut n N c τ H pc fl act fun e τ' H' pc' =>
      match e with
      | .exit id' => if id' = id then k .normal τ' H' pc' else k (.exit id') τ' H' pc'
      | e => k e τ' H' pc'
    | .loop c => match (firstRegion c).bind cut with
      | some cu => ccut (cexec S cut n) N c cu τ H pc fl act k
      | none => cloop (cexec S cut n) N c n τ H pc fl act k
    | .scope c => cscope (cexec S cut n) N c n c τ H pc fl act k
    | c => sexec S (n + 1) N c τ H pc k

section
variable {S : SE} {x : VCtx}

/-- what is kept on the way -/
structure Kp (S : SE) (fl : Nat) (act : List Nat) (m : Lm) (g : Sg) (m' : Lm) (g' : Sg) : Prop where
  C : g'.C = S.con
  ρ : ∀ i, i < fl → g'.ρ i = g.ρ i
  m : ∀ a ∈ act, m' a = m a

theorem Kp.refl {fl : Nat} {act : List Nat} {m : Lm} {g : Sg} (hg : g.C = S.con) : Kp S fl act m g m g := ⟨hg, fun _ _ => rfl, fun _ _ => rfl⟩
theorem Kp.trans {fl : Nat} {act : List Nat} {m m' m'' : Lm} {g g' g'' : Sg} (a : Kp S fl act m g m' g') (b : Kp S fl act m' g' m'' g'') : Kp S fl act m g m'' g'' :=
  ⟨b.C, fun i hi => (b.ρ i hi).trans (a.ρ i hi), fun k hk => (b.m k hk).trans (a.m k hk)⟩

def CSound (S : SE) (x : VCtx) (r : CRec) : Prop :=
  ∀ N c τ H pc fl act (k : KX) t h g m (Q : Exit → T → AH → Prop), g.C = S.con → Sim g τ H pc t h → VC x m g.ρ (r N c τ H pc fl act k) →
    (∀ e τ' H' pc' t' h' g' m', Kp S fl act m g m' g' → Sim g' τ' H' pc' t' h' → VC x m' g'.ρ (k e τ' H' pc') → Q e t' h') → AWP S.E.P N c t h Q

theorem cloop_sound {r : CRec} (hr : CSound S x r) (N : Nat) (c : Code) (n : Nat) : ∀ τ H pc fl act (k : KX) t h g m (Q : Exit → T → AH → Prop), g.C = S.con → Sim g τ H pc t h → VC x m g.ρ (cloop r N c n τ H pc fl act k) →
    (∀ e τ' H' pc' t' h' g' m', Kp S fl act m g m' g' → Sim g' τ' H' pc' t' h' → VC x m' g'.ρ (k e τ' H' pc') → Q e t' h') → AWP S.E.P N (.loop c) t h Q := by
  intro τ H pc fl act k t h g m Q hg hs hv hk
  refine AWP.loop (fun j t h => ∃ g' m' τ' H' pc', Kp S fl act m g m' g' ∧ Sim g' τ' H' pc' t h ∧ VC x m' g'.ρ (cloop r N c j τ' H' pc' fl act k)) n ⟨g, m, τ, H, pc, Kp.refl hg, hs, hv⟩ ?_
  intro j t₁ h₁ ⟨g₁, m₁, τ₁, H₁, pc₁, k₁, s₁, v₁⟩
  cases j with
  | zero => exact v₁.elim
  | succ j =>
    refine hr _ _ _ _ _ _ _ _ _ _ _ _ _ k₁.C s₁ v₁ fun e τ' H' pc' t' h' g' m' k₂ s₂ v₂ => ?_
    cases e with
    | normal => exact ⟨j, Nat.lt_succ_self j, g', m', τ', H', pc', k₁.trans k₂, s₂, v₂⟩
    | _ => exact hk _ _ _ _ _ _ _ _ (k₁.trans k₂) s₂ v₂

theorem cscope_sound {r : CRec} (hr : CSound S x r) (N : Nat) (c : Code) (n : Nat) : ∀ τ H pc fl act (k : KX) t h g m (Q : Exit → T → AH → Prop), g.C = S.con → Sim g τ H pc t h → VC x m g.ρ (cscope r N c n c τ H pc fl act k) →
    (∀ e τ' H' pc' t' h' g' m', Kp S fl act m g m' g' → Sim g' τ' H' pc' t' h' → VC x m' g'.ρ (k e τ' H' pc') → Q e t' h') → AWP S.E.P N (.scope c) t h Q := by
  intro τ H pc fl act k t h g m Q hg hs hv hk
  refine AWP.scope (fun j cur t h => ∃ g' m' τ' H' pc', Kp S fl act m g m' g' ∧ Sim g' τ' H' pc' t h ∧ VC x m' g'.ρ (cscope r N c j cur τ' H' pc' fl act k)) n ⟨g, m, τ, H, pc, Kp.refl hg, hs, hv⟩ ?_
  intro j cur t₁ h₁ ⟨g₁, m₁, τ₁, H₁, pc₁, k₁, s₁, v₁⟩
  cases j with
  | zero => exact v₁.elim
  | succ j =>
    refine hr _ _ _ _ _ _ _ _ _ _ _ _ _ k₁.C s₁ v₁ fun e τ' H' pc' t' h' g' m' k₂ s₂ v₂ => ?_
    cases e with
    | goto l =>
      simp only at v₂
      cases hf : findLabel c l with
      | none => rw [hf] at v₂; exact v₂.elim
      | some rest => rw [hf] at v₂; exact ⟨rest, hf, j, Nat.lt_succ_self j, g', m', τ', H', pc', k₁.trans k₂, s₂, v₂⟩
    | _ => exact hk _ _ _ _ _ _ _ _ (k₁.trans k₂) s₂ v₂

theorem ccut_sound (hx : x.C = S.con) {r : CRec} (hr : CSound S x r) (N : Nat) (c : Code) (cu : Cut) : ∀ τ H pc fl act (k : KX) t h g m (Q : Exit → T → AH → Prop), g.C = S.con → Sim g τ H pc t h → VC x m g.ρ (ccut r N c cu τ H pc fl act k) →
    (∀ e τ' H' pc' t' h' g' m', Kp S fl act m g m' g' → Sim g' τ' H' pc' t' h' → VC x m' g'.ρ (k e τ' H' pc') → Q e t' h') → AWP S.E.P N (.loop c) t h Q := by
  intro τ H pc fl act k t h g m Q hg hs hv hk
  unfold ccut at hv
  split at hv
  · exact hv.elim
  rename_i hok
  simp only [Bool.or_eq_true, not_or, Bool.not_eq_true] at hok
  obtain ⟨hlo, hact⟩ := hok
  have hlo : fl ≤ cu.lo := Nat.le_of_not_lt fun hlt => by rw [blt_iff.2 hlt] at hlo; cases hlo
  simp only at hv
  generalize hst : ghostAll cu (τ, H) = st at hv
  obtain ⟨t2, h2, w2, ht2, hr2⟩ := ghostAll_sound (P := S.E.P) (N := N) (cu := cu) (st := (τ, H)) hs.t hs.h
  rw [hst] at ht2 hr2
  split at hv
  · exact hv.elim
  rename_i i hi
  have hxg : x.C = g.C := hx.trans hg.symm
  obtain ⟨hc, pc', hpc, hv⟩ := musts_sound hxg hs.pc hv
  simp only [VC] at hv
  obtain ⟨hJ, hv⟩ := hv
  have sim : ∀ {g₀ : Sg} {r₀ : Inst} {τ' : TS} {H' : SH} {t3 : T} {h3 : AH}, instOf cu (writes c) N st.1 st.2 τ' H' = some r₀ → g₀.C = S.con → TR g₀ τ' t3 → SR g₀ H' h3 → (∀ c ∈ r₀.1, g₀.B c = true) → (∀ i, i < cu.lo → g.ρ i = g₀.ρ i) →
      Sim (g₀.cut cu st.2.n g.ρ r₀ t3 h3.n) (patT cu (writes c) N st.2.n st.1) (patH cu st.2) (pc'.filter fun p => p.1.upto cu.lo) t3 h3 := by
    intro g₀ r₀ τ' H' t3 h3 q1 q2 q3 q4 q5 q6
    obtain ⟨s1, s2⟩ := inst_sound q1 q3 q4 q5 q6
    refine ⟨s1, s2, fun p hp => ?_⟩
    obtain ⟨p1, p2⟩ := List.mem_filter.1 hp
    rw [← hpc p p1]
    unfold Sg.B Sg.d
    rw [show (g₀.cut cu st.2.n g.ρ r₀ t3 h3.n).C = g.C from q2.trans hg.symm]
    rw [X.upto_den (C := g.C) (ρ := g.ρ) (fun i hi => ?_) p2]
    simp only [Sg.cut, overR]
    rw [if_neg (by omega)]
  refine w2 _ _ ?_
  refine AWP.loop (fun n t h => ∃ t3 h3 g' d, Weak S.E.P N t h t3 h3 ∧ g'.C = S.con ∧ g'.ρ = overR g.ρ cu.lo cu.cnt d ∧ x.J cu.key g'.ρ ∧ x.ms cu.key g'.ρ = n ∧
      Sim g' (patT cu (writes c) N st.2.n st.1) (patH cu st.2) (pc'.filter fun p => p.1.upto cu.lo) t3 h3) (x.ms cu.key (overR g.ρ cu.lo cu.cnt (subR x.C g.ρ i.2.1))) ?_ ?_
  · refine ⟨t2, h2, g.cut cu st.2.n g.ρ i t2 h2.n, subR x.C g.ρ i.2.1, Weak.refl _ _ _ _, hg, ?_, ?_, ?_, sim hi hg ht2 hr2 hc (fun _ _ => rfl)⟩
    · simp only [Sg.cut]; rw [hxg]
    · simp only [Sg.cut]; rw [← hxg]; exact hJ
    · simp only [Sg.cut]; rw [← hxg]
  · intro n t₁ h₁ ⟨t3, h3, g₁, d, w3, hC, hρ, hJ₁, hm₁, s₁⟩
    refine w3 _ _ ?_
    have hv₁ := hv d (by rw [← hρ]; exact hJ₁)
    rw [← hρ] at hv₁
    refine hr _ _ _ _ _ _ _ _ _ _ _ _ _ hC s₁ hv₁ fun e τ' H' pc'' t' h' g' m' k₂ s₂ v₂ => ?_
    have hlow : ∀ i, i < cu.lo → g'.ρ i = g.ρ i := fun i hi => by
      rw [k₂.ρ i (by omega), hρ]
      simp only [overR]
      rw [if_neg (by omega)]
    have fin : ∀ e, VC x m' g'.ρ (k e τ' H' pc'') → Q e t' h' := fun e v₂ => by
      refine hk e τ' H' pc'' t' h' g' m' ⟨k₂.C, fun i hi => hlow i (by omega), fun a ha => ?_⟩ s₂ v₂
      have := k₂.m a (List.mem_cons_of_mem _ ha)
      rw [this]
      have hne : a ≠ cu.key := fun e => by
        subst e
        have : act.contains cu.key = true := by simpa using ha
        rw [this] at hact; cases hact
      simp only [upN, hne, if_false]
    cases e with
    | normal =>
      have v₂ : VC x m' g'.ρ (match instOf cu (writes c) N st.1 st.2 (ghostAll cu (τ', H')).1 (ghostAll cu (τ', H')).2 with
        | some r => musts r.1 pc'' fun _ => .again cu.key cu.lo cu.cnt r.2.1
        | none => .stuck 32) := v₂
      obtain ⟨t4, h4, w4, ht4, hr4⟩ := ghostAll_sound (P := S.E.P) (N := N) (cu := cu) (st := (τ', H')) s₂.t s₂.h
      split at v₂
      · rename_i r' hi'
        have hxg' : x.C = g'.C := hx.trans k₂.C.symm
        obtain ⟨hc', pc3, hpc3, v₃⟩ := musts_sound hxg' s₂.pc v₂
        simp only [VC] at v₃
        have hmk : m' cu.key = (n, g.ρ) := by
          rw [k₂.m cu.key List.mem_cons_self, ← hm₁]
          simp only [upN, if_true]
        rw [hmk] at v₃
        refine ⟨_, v₃.2, t4, h4, g'.cut cu st.2.n g.ρ r' t4 h4.n, subR x.C g'.ρ r'.2.1, w4, k₂.C, ?_, ?_, ?_, sim hi' k₂.C ht4 hr4 hc' (fun i hi => (hlow i hi).symm)⟩
        · simp only [Sg.cut]; rw [hxg']
        · simp only [Sg.cut]; rw [← hxg']; exact v₃.1
        · simp only [Sg.cut]; rw [← hxg']
      · exact v₂.elim
    | _ => exact fin _ v₂

theorem cexec_sound (hS : S.Ok) (hx : x.C = S.con) {cut : Nat → Option Cut} : ∀ n, CSound S x (cexec S cut n)
  | 0 => fun _ _ _ _ _ _ _ _ _ _ _ _ _ _ _ hv _ => hv.elim
  | n + 1 => by
    have ih := cexec_sound hS hx (cut := cut) n
    intro N c τ H pc fl act k t h g m Q hg hs hv hk
    have flat : VC x m g.ρ (sexec S (n + 1) N c τ H pc k) → AWP S.E.P N c t h Q := fun hv => by
      obtain ⟨e, t', h', τ', H', pc', q1, q2, q3⟩ := sexec_sound (x := x) (m := m) (g := g) hS (hx.trans hg.symm) hg (n + 1) _ _ _ _ _ _ _ _ hs hv
      refine aexec_sound hS.fine (n + 1) _ _ _ _ _ ?_
      rw [q1]
      exact hk e τ' H' pc' t' h' g m (Kp.refl hg) q2 q3
    cases c
    case seq a b =>
      simp only [cexec] at hv
      refine AWP.seq (ih _ _ _ _ _ _ _ _ _ _ _ _ _ hg hs hv fun e τ' H' pc' t' h' g' m' k₂ s₂ v₂ => ?_)
      cases e with
      | normal => exact ih _ _ _ _ _ _ _ _ _ _ _ _ _ k₂.C s₂ v₂ fun e τ3 H3 pc3 t3 h3 g3 m3 k₃ s₃ v₃ => hk e τ3 H3 pc3 t3 h3 g3 m3 (k₂.trans k₃) s₃ v₃
      | _ => exact hk _ _ _ _ _ _ _ _ k₂ s₂ v₂
    case cond y a b =>
      simp only [cexec] at hv
      split at hv
      · rename_i z hz
        have e := sev_sound hs.t hz
        obtain ⟨pc', hp', h1⟩ := sbranch_sound (hx.trans hg.symm) hs.pc hv
        have e' : ev t y = some (.bool (g.B z)) := e
        refine AWP.cond e' ?_
        rcases h1 with ⟨h1, h2⟩ | ⟨h1, h2⟩
        · rw [h1]; exact ih _ _ _ _ _ _ _ _ _ _ _ _ _ hg ⟨hs.t, hs.h, hp'⟩ h2 hk
        · rw [h1]; exact ih _ _ _ _ _ _ _ _ _ _ _ _ _ hg ⟨hs.t, hs.h, hp'⟩ h2 hk
      · exact hv.elim
    case block id c =>
      simp only [cexec] at hv
      refine AWP.block (ih _ _ _ _ _ _ _ _ _ _ _ _ _ hg hs hv fun e τ' H' pc' t' h' g' m' k₂ s₂ v₂ => ?_)
      cases e with
      | exit id' =>
        simp only at v₂
        simp only [blockQ]
        split at v₂
        · rename_i e; rw [if_pos e]; exact hk _ _ _ _ _ _ _ _ k₂ s₂ v₂
        · rename_i e; rw [if_neg e]; exact hk _ _ _ _ _ _ _ _ k₂ s₂ v₂
      | _ => exact hk _ _ _ _ _ _ _ _ k₂ s₂ v₂
    case loop c =>
      simp only [cexec] at hv
      split at hv
      · exact ccut_sound hx ih N c _ _ _ _ _ _ _ _ _ _ _ _ hg hs hv hk
      · exact cloop_sound ih N c n _ _ _ _ _ _ _ _ _ _ _ hg hs hv hk
    case scope c =>
      simp only [cexec] at hv
      exact cscope_sound ih N c n _ _ _ _ _ _ _ _ _ _ _ hg hs hv hk
    all_goals exact flat hv

end

end Go.AM
