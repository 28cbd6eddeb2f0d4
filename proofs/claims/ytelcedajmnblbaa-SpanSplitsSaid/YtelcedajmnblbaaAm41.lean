/-
  AM, part 41: contracts of functions with loops.
-/
import Derived.Test.YtelcedajmnblbaaAm40
set_option linter.unusedVariables false
set_option linter.unusedSimpArgs false
namespace Go.AM

def treeC (S : SE) (cuts : Cuts) (n : Nat) (g : FuncId) (c : Con) : Tree :=
  match S.E.P.funcs[g]? with
  | some fn => match fn.body with
    | some b =>
      let a := sins c.ins 0 SH.empty
      cexec S cuts n g (Nof fn c.ins.length) b (TS.init a.1) a.2 [] c.ins.length fun e τ H pc _ => fin S fn c e τ H pc
    | none => .stuck 97
  | none => .stuck 98

/-- invariants and measures of loops -/
def vcJ (C : FuncId → Option Con) (J : Nat → (Nat → D) → Prop) (ms : Nat → (Nat → D) → Nat) (R : D → Prop) : VCtx := { C := C, J := J, ms := ms, R := R }

def m0 : Lm := fun _ => (0, fun _ => default)

theorem Canon.of_ctree {S : SE} (hS : S.Ok) {g : FuncId} {fn : Func} {body : Code} {c : Con} (hf : S.E.P.funcs[g]? = some fn) (hb : fn.body = some body) (cuts : Cuts) (n : Nat) (J : List D → Nat → (Nat → D) → Prop) (ms : List D → Nat → (Nat → D) → Nat)
    (hv : ∀ ds, c.ok ds = true → norms c.ins ds = ds → VC (vcJ S.con (J ds) (ms ds) (fun d => d.toL = norms c.outs (c.f ds))) m0 (ρof ds) (treeC S cuts n g c)) :
    Canon S.E.P g c := by
  intro ds hpre hnorm
  have h1 := hv ds hpre hnorm
  simp only [treeC, hf, hb] at h1
  let sg : Sg := ⟨S.con, ρof ds, fun _ _ => undef, id⟩
  obtain ⟨a1, a2⟩ := sins_sound (g := sg) c.ins 0 ds (SR.empty sg fun _ => rfl) (fun j _ => by simp [sg, ρof])
  have hlen : (cins c.ins ds AH.empty).1.length = c.ins.length := by
    have : ∀ (ss : List Sh) (ds : List D) (h : AH), (cins ss ds h).1.length = ss.length := fun ss => by
      induction ss with
      | nil => intro _ _; rfl
      | cons s ss ih => intro ds h; simp [cins, ih]
    exact this _ _ _
  refine ACalls.of_body hS.fine.ok hf hb ?_
  rw [hlen, a1]
  refine cexec_sound (x := vcJ S.con (J ds) (ms ds) (fun d => d.toL = norms c.outs (c.f ds))) hS rfl n _ _ _ _ _ _ _ _ _ _ sg m0 _ rfl ⟨TS.init_rel _, a2, fun p hp => by cases hp⟩ h1 ?_
  intro e τ' H' pc' fl' t' h' g' m' kp s' v'
  obtain ⟨he, v, r1, us, r2, r3⟩ := fin_sound (S := S) (fn := fn) (c := c) (x := vcJ S.con (J ds) (ms ds) (fun d => d.toL = norms c.outs (c.f ds))) (ds := ds) kp.hC.symm (fun d hd => hd) s' v'
  rcases he with rfl | rfl
  · exact ⟨v, r1, us, r2, r3⟩
  · exact ⟨v, r1, us, r2, r3⟩

theorem ConsOk.ofC {P : Program} (hm : P.follows .mixedOrders = true) (hn : namesOk P = true) {l : Cons} (hl : ConsOk P l) {g : FuncId} {c : Con} (hg : bodied P g = true) (cuts : Cuts) (n : Nat)
    {T : Tree} (hT : treeC (mkS P l) cuts n g c = T) (J : List D → Nat → (Nat → D) → Prop) (ms : List D → Nat → (Nat → D) → Nat)
    (hv : ∀ ds, c.ok ds = true → norms c.ins ds = ds → VC (vcJ (conOf l) (J ds) (ms ds) (fun d => d.toL = norms c.outs (c.f ds))) m0 (ρof ds) T) : ConsOk P ((g, c) :: l) := by
  unfold bodied at hg
  cases hf : P.funcs[g]? with
  | none => rw [hf] at hg; cases hg
  | some fn =>
    rw [hf] at hg
    simp only at hg
    cases hb : fn.body with
    | none => rw [hb] at hg; cases hg
    | some b =>
      have hS := mkS_ok hm hn hl
      refine hl.cons (Canon.specOk ⟨fn, hf, hS.fine.name g fn hf, by rw [hb]; rfl⟩ ?_)
      exact Canon.of_ctree (S := mkS P l) hS hf hb cuts n J ms (fun ds h1 h2 => by rw [hT]; exact hv ds h1 h2)

theorem vcJ_C {C : FuncId → Option Con} {J : Nat → (Nat → D) → Prop} {ms : Nat → (Nat → D) → Nat} {R : D → Prop} : (vcJ C J ms R).C = C := rfl
theorem vcJ_R {C : FuncId → Option Con} {J : Nat → (Nat → D) → Prop} {ms : Nat → (Nat → D) → Nat} {R : D → Prop} : (vcJ C J ms R).R = R := rfl
theorem vcJ_J {C : FuncId → Option Con} {J : Nat → (Nat → D) → Prop} {ms : Nat → (Nat → D) → Nat} {R : D → Prop} : (vcJ C J ms R).J = J := rfl
theorem vcJ_ms {C : FuncId → Option Con} {J : Nat → (Nat → D) → Prop} {ms : Nat → (Nat → D) → Nat} {R : D → Prop} : (vcJ C J ms R).ms = ms := rfl
theorem VC_loop {x : VCtx} {m : Lm} {ρ : Nat → D} {k lo cnt : Nat} {θ : List (Nat × X)} {t : Tree} : VC x m ρ (.loop k lo cnt θ t) =
    (x.J k (overR ρ lo cnt (subR x.C ρ θ)) ∧ ∀ d : Nat → D, x.J k (overR ρ lo cnt d) → VC x (upN m k (x.ms k (overR ρ lo cnt d)) ρ) (overR ρ lo cnt d) t) := rfl
theorem VC_again {x : VCtx} {m : Lm} {ρ : Nat → D} {k lo cnt : Nat} {θ : List (Nat × X)} : VC x m ρ (.again k lo cnt θ) =
    (x.J k (overR (m k).2 lo cnt (subR x.C ρ θ)) ∧ x.ms k (overR (m k).2 lo cnt (subR x.C ρ θ)) < (m k).1) := rfl
theorem vc_loop {p : Prop} {q r : (Nat → D) → Prop} (h1 : p) (h2 : ∀ d, q d → r d) : p ∧ ∀ d, q d → r d := ⟨h1, h2⟩
theorem overR_in {ρ : Nat → D} {lo cnt : Nat} {d : Nat → D} {i : Nat} (h : lo ≤ i ∧ i < lo + cnt) : overR ρ lo cnt d i = d i := if_pos h
theorem overR_out {ρ : Nat → D} {lo cnt : Nat} {d : Nat → D} {i : Nat} (h : ¬ (lo ≤ i ∧ i < lo + cnt)) : overR ρ lo cnt d i = ρ i := if_neg h
theorem subR_def {C : FuncId → Option Con} {ρ : Nat → D} {θ : List (Nat × X)} {i : Nat} : subR C ρ θ i = match θ.lookup i with | some x => x.den C ρ | none => ρ i := rfl
theorem upN_eq {m : Lm} {k n : Nat} {ρ : Nat → D} : upN m k n ρ k = (n, ρ) := if_pos rfl
theorem upN_ne {m : Lm} {k n : Nat} {ρ : Nat → D} {k' : Nat} (h : k' ≠ k) : upN m k n ρ k' = m k' := if_neg h

end Go.AM
