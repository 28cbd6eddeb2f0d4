/-
  AM, part 28: code without cuts is sound.
-/
import Derived.Test.YtelcedajmnblbaaAm27
set_option linter.unusedVariables false
set_option linter.unusedSimpArgs false
namespace Go.AM

section
variable {S : SE} {x : VCtx} {m : Lm} {g : Sg}

theorem sops_sound (hS : S.Ok) (hx : x.C = g.C) (hg : g.C = S.con) {ar : Rec} {r : SRec} (hr : RecSim x m g ar r) {N : Nat} {ops : List Oper} : ∀ (os : List Oper) {τ : TS} {H : SH} {pc : PC} {t : T} {h : AH},
    Sim g τ H pc t h → ∀ {k : TS → SH → PC → Tree}, VC x m g.ρ (sops S r N ops os τ H pc k) →
    ∃ t' h' τ' H' pc', aopsGo S.E ar N ops os t h = .ret (t', h') ∧ Sim g τ' H' pc' t' h' ∧ VC x m g.ρ (k τ' H' pc')
  | [], τ, H, pc, t, h, hs, k, hv => ⟨t, h, τ, H, pc, rfl, hs, hv⟩
  | o :: os, τ, H, pc, t, h, hs, k, hv => by
    have go : ∀ {τ : TS} {pc : PC}, Sim g τ H pc t h → wantedA ops t o = true → VC x m g.ρ (sstep S r o τ H pc fun v H' pc' => sops S r N ops os (τ.put N o.dst v) H' pc' k) →
        ∃ t' h' τ' H' pc', aopsGo S.E ar N ops (o :: os) t h = .ret (t', h') ∧ Sim g τ' H' pc' t' h' ∧ VC x m g.ρ (k τ' H' pc') := by
      intro τ pc hs hw hv
      obtain ⟨v, H', pc', h', q1, q2, q3, q4⟩ := sstep_sound hS hx hg hr hs hv
      obtain ⟨t', h'', τ', H'', pc'', p1, p2⟩ := sops_sound hS hx hg hr os ⟨hs.t.put N o.dst v, q2, q3⟩ q4
      refine ⟨t', h'', τ', H'', pc'', ?_, p2⟩
      simp only [aopsGo, hw, if_true, q1, Res.bind]
      exact p1
    have past : ∀ {τ : TS} {pc : PC}, Sim g τ H pc t h → wantedA ops t o = false → VC x m g.ρ (sops S r N ops os (τ.put N o.dst (s0 (.cst .undef))) H pc k) →
        ∃ t' h' τ' H' pc', aopsGo S.E ar N ops (o :: os) t h = .ret (t', h') ∧ Sim g τ' H' pc' t' h' ∧ VC x m g.ρ (k τ' H' pc') := by
      intro τ pc hs hw hv
      obtain ⟨t', h'', τ', H'', pc'', p1, p2⟩ := sops_sound hS hx hg hr os ⟨hs.t.put N o.dst (s0 (.cst .undef)), hs.h, hs.pc⟩ hv
      refine ⟨t', h'', τ', H'', pc'', ?_, p2⟩
      simp only [aopsGo, hw, Bool.false_eq_true, if_false]
      exact p1
    have hgd := sguard_sound (g := g) (ops := ops) hs.t (o := o)
    simp only [sops] at hv
    split at hv
    · rename_i e; rw [e] at hgd; exact go hs hgd hv
    · rename_i e; rw [e] at hgd; exact past hs hgd hv
    · exact hv.elim
    · rename_i d y want e
      rw [e] at hgd
      obtain ⟨hd, hw⟩ := hgd
      obtain ⟨pc', hp', h1⟩ := sbranch_sound hx hs.pc hv
      rcases h1 with ⟨h1, h2⟩ | ⟨h1, h2⟩
      · have hs' : Sim g (τ.upd d (lit true)) H pc' t h := ⟨hs.t.upd_lit hd h1, hs.h, hp'⟩
        rw [h1] at hw
        cases want with
        | true => exact go hs' hw h2
        | false => exact past hs' hw h2
      · have hs' : Sim g (τ.upd d (lit false)) H pc' t h := ⟨hs.t.upd_lit hd h1, hs.h, hp'⟩
        rw [h1] at hw
        cases want with
        | true => exact past hs' hw h2
        | false => exact go hs' hw h2

theorem SR.shut {H : SH} {h : AH} (hr : SR g H h) : SR g H.shut h.shut := by
  refine ⟨hr.next, hr.blk, hr.inj, fun b hb => ?_⟩
  have : H.n ≤ b := hb
  obtain ⟨k, rfl⟩ := Nat.exists_eq_add_of_le this
  show h.n ≤ _
  rw [hr.next k]; omega
theorem SR.reopen {H H₀ : SH} {h h₀ : AH} (hr : SR g H h) (h0 : SR g H₀ h₀) : SR g (H.reopen H₀.lim) (h.reopen h₀.lim) := ⟨hr.next, hr.blk, hr.inj, h0.lim⟩

theorem sopsD_sound (hS : S.Ok) (hx : x.C = g.C) (hg : g.C = S.con) {ar : Rec} {r : SRec} (hr : RecSim x m g ar r) {N : Nat} {ops : List Oper} {ms : List Nat} : ∀ (os : List Oper) (j : Nat) {τ : TS} {H : SH} {pc : PC} {t : T} {h : AH},
    Sim g τ H pc t h → ∀ {k : TS → SH → PC → Tree}, VC x m g.ρ (sopsD S r N ops ms j os τ H pc k) →
    ∃ t' h' τ' H' pc', aopsD S.E ar N ops ms j os t h = .ret (t', h') ∧ Sim g τ' H' pc' t' h' ∧ VC x m g.ρ (k τ' H' pc')
  | [], j, τ, H, pc, t, h, hs, k, hv => ⟨t, h, τ, H, pc, rfl, hs, hv⟩
  | o :: os, j, τ, H, pc, t, h, hs, k, hv => by
    have go : ∀ {τ : TS} {pc : PC}, Sim g τ H pc t h → wantedA ops t o = true → VC x m g.ρ (if heapOp o && !barrier ops ms j then sstep S r o τ H.shut pc fun v H' pc' => sopsD S r N ops ms (j + 1) os (τ.put N o.dst v) (H'.reopen H.lim) pc' k
      else sstep S r o τ H pc fun v H' pc' => sopsD S r N ops ms (j + 1) os (τ.put N o.dst v) H' pc' k) →
        ∃ t' h' τ' H' pc', aopsD S.E ar N ops ms j (o :: os) t h = .ret (t', h') ∧ Sim g τ' H' pc' t' h' ∧ VC x m g.ρ (k τ' H' pc') := by
      intro τ pc hs hw hv
      split at hv
      · rename_i hb
        obtain ⟨v, H', pc', h', q1, q2, q3, q4⟩ := sstep_sound hS hx hg hr ⟨hs.t, hs.h.shut, hs.pc⟩ hv
        obtain ⟨t', h'', τ', H'', pc'', p1, p2⟩ := sopsD_sound hS hx hg hr os (j + 1) ⟨hs.t.put N o.dst v, q2.reopen hs.h, q3⟩ q4
        refine ⟨t', h'', τ', H'', pc'', ?_, p2⟩
        simp only [aopsD, hw, if_true, hb, q1]
        exact p1
      · rename_i hb
        obtain ⟨v, H', pc', h', q1, q2, q3, q4⟩ := sstep_sound hS hx hg hr hs hv
        obtain ⟨t', h'', τ', H'', pc'', p1, p2⟩ := sopsD_sound hS hx hg hr os (j + 1) ⟨hs.t.put N o.dst v, q2, q3⟩ q4
        refine ⟨t', h'', τ', H'', pc'', ?_, p2⟩
        simp only [aopsD, hw, if_true, hb, Bool.false_eq_true, if_false, q1]
        exact p1
    have past : ∀ {τ : TS} {pc : PC}, Sim g τ H pc t h → wantedA ops t o = false → VC x m g.ρ (sopsD S r N ops ms (j + 1) os (τ.put N o.dst (s0 (.cst .undef))) H pc k) →
        ∃ t' h' τ' H' pc', aopsD S.E ar N ops ms j (o :: os) t h = .ret (t', h') ∧ Sim g τ' H' pc' t' h' ∧ VC x m g.ρ (k τ' H' pc') := by
      intro τ pc hs hw hv
      obtain ⟨t', h'', τ', H'', pc'', p1, p2⟩ := sopsD_sound hS hx hg hr os (j + 1) ⟨hs.t.put N o.dst (s0 (.cst .undef)), hs.h, hs.pc⟩ hv
      refine ⟨t', h'', τ', H'', pc'', ?_, p2⟩
      simp only [aopsD, hw, Bool.false_eq_true, if_false]
      exact p1
    have hgd := sguard_sound (g := g) (ops := ops) hs.t (o := o)
    simp only [sopsD] at hv
    split at hv
    · rename_i e; rw [e] at hgd; exact go hs hgd hv
    · rename_i e; rw [e] at hgd; exact past hs hgd hv
    · exact hv.elim
    · rename_i d y want e
      rw [e] at hgd
      obtain ⟨hd, hw⟩ := hgd
      obtain ⟨pc', hp', h1⟩ := sbranch_sound hx hs.pc hv
      rcases h1 with ⟨h1, h2⟩ | ⟨h1, h2⟩
      · have hs' : Sim g (τ.upd d (lit true)) H pc' t h := ⟨hs.t.upd_lit hd h1, hs.h, hp'⟩
        rw [h1] at hw
        cases want with
        | true => exact go hs' hw h2
        | false => exact past hs' hw h2
      · have hs' : Sim g (τ.upd d (lit false)) H pc' t h := ⟨hs.t.upd_lit hd h1, hs.h, hp'⟩
        rw [h1] at hw
        cases want with
        | true => exact past hs' hw h2
        | false => exact go hs' hw h2

theorem sscope_sound {ar : Rec} {r : SRec} (hr : RecSim x m g ar r) {N : Nat} {c : Code} : ∀ (n : Nat) {cur : Code} {τ : TS} {H : SH} {pc : PC} {t : T} {h : AH}, Sim g τ H pc t h → ∀ {k : KX}, VC x m g.ρ (sscope r N c n cur τ H pc k) →
    ∃ e t' h' τ' H' pc', ascope ar N c n cur t h = .ret (e, t', h') ∧ Sim g τ' H' pc' t' h' ∧ VC x m g.ρ (k e τ' H' pc')
  | 0, cur, τ, H, pc, t, h, hs, k, hv => hv.elim
  | n + 1, cur, τ, H, pc, t, h, hs, k, hv => by
    obtain ⟨e, t', h', τ', H', pc', q1, q2, q3⟩ := hr _ _ _ _ _ _ _ _ hs hv
    simp only [ascope, q1, Res.bind]
    cases e with
    | goto l =>
      simp only at q3 ⊢
      cases hf : findLabel c l with
      | none => simp only [hf] at q3; exact q3.elim
      | some rest => simp only [hf] at q3 ⊢; exact sscope_sound hr n q2 q3
    | _ => exact ⟨_, t', h', τ', H', pc', rfl, q2, q3⟩

theorem sloop_sound {ar : Rec} {r : SRec} (hr : RecSim x m g ar r) {N : Nat} {c : Code} : ∀ (n : Nat) {τ : TS} {H : SH} {pc : PC} {t : T} {h : AH}, Sim g τ H pc t h → ∀ {k : KX}, VC x m g.ρ (sloop r N c n τ H pc k) →
    ∃ e t' h' τ' H' pc', aloop ar N c n t h = .ret (e, t', h') ∧ Sim g τ' H' pc' t' h' ∧ VC x m g.ρ (k e τ' H' pc')
  | 0, τ, H, pc, t, h, hs, k, hv => hv.elim
  | n + 1, τ, H, pc, t, h, hs, k, hv => by
    obtain ⟨e, t', h', τ', H', pc', q1, q2, q3⟩ := hr _ _ _ _ _ _ _ _ hs hv
    simp only [aloop, q1, Res.bind]
    cases e with
    | normal => exact sloop_sound hr n q2 q3
    | _ => exact ⟨_, t', h', τ', H', pc', rfl, q2, q3⟩

theorem sbody_sound (hS : S.Ok) (hx : x.C = g.C) (hg : g.C = S.con) {ar : Rec} {r : SRec} (hr : RecSim x m g ar r) (n : Nat) : RecSim x m g (fun N c t h => abody S.E n ar N c t h) (fun N c τ H pc k => sbody S n r N c τ H pc k) := by
  intro N c τ H pc k t h hs hv
  cases c <;> simp only [sbody] at hv <;> simp only [abody]
  case skip => exact ⟨_, t, h, τ, H, pc, rfl, hs, hv⟩
  case label l => exact ⟨_, t, h, τ, H, pc, rfl, hs, hv⟩
  case exit id => exact ⟨_, t, h, τ, H, pc, rfl, hs, hv⟩
  case goto l => exact ⟨_, t, h, τ, H, pc, rfl, hs, hv⟩
  case ret => exact ⟨_, t, h, τ, H, pc, rfl, hs, hv⟩
  case region id ops draw =>
    split at hv
    · rename_i hd
      rw [if_pos hd]
      split at hv
      · rename_i hok
        rw [if_pos hok]
        obtain ⟨t', h', τ', H', pc', q1, q2, q3⟩ := sopsD_sound hS hx hg hr ops.toList 0 hs hv
        exact ⟨_, t', h', τ', H', pc', by rw [q1]; rfl, q2, q3⟩
      · exact hv.elim
    · rename_i hd
      rw [if_neg hd]
      obtain ⟨t', h', τ', H', pc', q1, q2, q3⟩ := sops_sound hS hx hg hr ops.toList hs hv
      exact ⟨_, t', h', τ', H', pc', by rw [q1]; rfl, q2, q3⟩
  case seq a b =>
    obtain ⟨e, t', h', τ', H', pc', q1, q2, q3⟩ := hr _ _ _ _ _ _ _ _ hs hv
    simp only [q1, Res.bind]
    cases e with
    | normal => exact hr _ _ _ _ _ _ _ _ q2 q3
    | _ => exact ⟨_, t', h', τ', H', pc', rfl, q2, q3⟩
  case cond y a b =>
    split at hv
    · rename_i z hz
      have e := sev_sound hs.t hz
      obtain ⟨pc', hp', h1⟩ := sbranch_sound hx hs.pc hv
      have e' : ev t y = some (.bool (g.B z)) := e
      rcases h1 with ⟨h1, h2⟩ | ⟨h1, h2⟩
      · rw [h1] at e'
        simp only [e']
        exact hr _ _ _ _ _ _ _ _ ⟨hs.t, hs.h, hp'⟩ h2
      · rw [h1] at e'
        simp only [e']
        exact hr _ _ _ _ _ _ _ _ ⟨hs.t, hs.h, hp'⟩ h2
    · exact hv.elim
  case block id c =>
    obtain ⟨e, t', h', τ', H', pc', q1, q2, q3⟩ := hr _ _ _ _ _ _ _ _ hs hv
    simp only [q1, Res.bind]
    cases e with
    | exit id' =>
      simp only at q3
      split at q3
      · rename_i e; simp only [e, if_true]; exact ⟨_, t', h', τ', H', pc', rfl, q2, q3⟩
      · rename_i e; simp only [e, if_false]; exact ⟨_, t', h', τ', H', pc', rfl, q2, q3⟩
    | _ => exact ⟨_, t', h', τ', H', pc', rfl, q2, q3⟩
  case loop c => exact sloop_sound hr n hs hv
  case scope c => exact sscope_sound hr n hs hv
  all_goals exact hv.elim

theorem sexec_sound (hS : S.Ok) (hx : x.C = g.C) (hg : g.C = S.con) : ∀ n, RecSim x m g (aexec S.E n) (sexec S n)
  | 0 => fun _ _ _ _ _ _ _ _ _ hv => hv.elim
  | n + 1 => sbody_sound hS hx hg (sexec_sound hS hx hg n) n

end

end Go.AM
