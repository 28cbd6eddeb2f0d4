/-
  AM, part 27: regions and code, symbolically.
-/
import Derived.Test.YtelcedajmnblbaaAm26
set_option linter.unusedVariables false
set_option linter.unusedSimpArgs false
namespace Go.AM

structure SE.Ok (S : SE) : Prop where
  fine : S.E.Fine
  con : ∀ g c, S.con g = some c → S.E.spec g = some (specOf c)
  own : ∀ g, S.own g = true → S.E.spec g = none

/-- one operation of a region -/
def sstep (S : SE) (r : SRec) (o : Oper) (τ : TS) (H : SH) (pc : PC) (k : S2 → SH → PC → Tree) : Tree :=
  match o.op with
  | .call { callee := .value f, args, argTypes := _ } =>
    match sev τ f, sevs τ args.toList with
    | some (.one (.clo g first cap)), some as =>
      match S.con g with
      | some c => sresult (scall c H g (first.map s0 ++ as ++ cap.map s0)) pc k
      | none =>
        if S.own g then
          match S.E.func g with
          | some fn => match fn.body with
            | some body => r (Nof fn (first.map s0 ++ as ++ cap.map s0).length) body (TS.init (first.map s0 ++ as ++ cap.map s0)) H pc fun e τ' H' pc' =>
              match e with
              | .normal | .ret => match sresults S.E fn τ' H' with
                | some (cs, v) => musts cs pc' fun pc'' => k v H' pc''
                | none => .stuck 3
              | _ => .stuck 4
            | none => .stuck 5
          | none => .stuck 6
        else .stuck 7
    | _, _ => .stuck 8
  | _ => sresult (sop S.E τ H o) pc k

/-- what a guard says: it isn't there, it is literal, it must be asked -/
inductive Gd where
  | yes | no | ask (d : Nat) (x : X) (want : Bool) | bad

def sguard (ops : List Oper) (τ : TS) (o : Oper) : Gd :=
  match o.guard with
  | none => .yes
  | some (j, want) =>
    match (ops[j]?).bind (·.dst) with
    | none => .no
    | some d => match τ d with
      | .one (.one (.sc .bool (.b b))) => if b == want then .yes else .no
      | .one (.one (.sc .bool x)) => .ask d x want
      | .one (.one (.cst .undef)) => .no
      | _ => .bad

def lit (b : Bool) : S2 := s0 (.sc .bool (.b b))

def sops (S : SE) (r : SRec) (N : Nat) (ops : List Oper) : List Oper → TS → SH → PC → (TS → SH → PC → Tree) → Tree
  | [], τ, H, pc, k => k τ H pc
  | o :: os, τ, H, pc, k =>
    let go := fun (τ : TS) (pc : PC) => sstep S r o τ H pc fun v H' pc' => sops S r N ops os (τ.put N o.dst v) H' pc' k
    let past := fun (τ : TS) (pc : PC) => sops S r N ops os (τ.put N o.dst (s0 (.cst .undef))) H pc k
    match sguard ops τ o with
    | .yes => go τ pc
    | .no => past τ pc
    | .bad => .stuck 9
    | .ask d x want => sbranch x pc (fun pc => if want then go (τ.upd d (lit true)) pc else past (τ.upd d (lit true)) pc) (fun pc => if want then past (τ.upd d (lit false)) pc else go (τ.upd d (lit false)) pc)

def SH.shut (H : SH) : SH := ⟨H.n, H.n, H.b⟩
def SH.reopen (H : SH) (l : Nat) : SH := ⟨H.n, l, H.b⟩

def sopsD (S : SE) (r : SRec) (N : Nat) (ops : List Oper) (ms : List Nat) : Nat → List Oper → TS → SH → PC → (TS → SH → PC → Tree) → Tree
  | _, [], τ, H, pc, k => k τ H pc
  | j, o :: os, τ, H, pc, k =>
    let go := fun (τ : TS) (pc : PC) =>
      if heapOp o && !barrier ops ms j then sstep S r o τ H.shut pc fun v H' pc' => sopsD S r N ops ms (j + 1) os (τ.put N o.dst v) (H'.reopen H.lim) pc' k
      else sstep S r o τ H pc fun v H' pc' => sopsD S r N ops ms (j + 1) os (τ.put N o.dst v) H' pc' k
    let past := fun (τ : TS) (pc : PC) => sopsD S r N ops ms (j + 1) os (τ.put N o.dst (s0 (.cst .undef))) H pc k
    match sguard ops τ o with
    | .yes => go τ pc
    | .no => past τ pc
    | .bad => .stuck 9
    | .ask d x want => sbranch x pc (fun pc => if want then go (τ.upd d (lit true)) pc else past (τ.upd d (lit true)) pc) (fun pc => if want then past (τ.upd d (lit false)) pc else go (τ.upd d (lit false)) pc)

def sscope (r : SRec) (N : Nat) (c : Code) : Nat → Code → TS → SH → PC → KX → Tree
  | 0, _, _, _, _, _ => .stuck 10
  | n + 1, cur, τ, H, pc, k => r N cur τ H pc fun e τ' H' pc' =>
    match e with
    | .goto l => match findLabel c l with
      | some rest => sscope r N c n rest τ' H' pc' k
      | none => .stuck 11
    | e => k e τ' H' pc'

def sloop (r : SRec) (N : Nat) (c : Code) : Nat → TS → SH → PC → KX → Tree
  | 0, _, _, _, _ => .stuck 12
  | n + 1, τ, H, pc, k => r N c τ H pc fun e τ' H' pc' =>
    match e with
    | .normal => sloop r N c n τ' H' pc' k
    | e => k e τ' H' pc'

def sbody (S : SE) (fuel : Nat) (r : SRec) (N : Nat) (c : Code) (τ : TS) (H : SH) (pc : PC) (k : KX) : Tree :=
  match c with
  | .skip | .label _ => k .normal τ H pc
  | .region _ ops draw =>
    if draw then
      if drawOk ops.toList then sopsD S r N ops.toList (masks ops.toList []) 0 ops.toList τ H pc fun τ H pc => k .normal τ H pc else .stuck 13
    else sops S r N ops.toList ops.toList τ H pc fun τ H pc => k .normal τ H pc
  | .seq a b => r N a τ H pc fun e τ' H' pc' =>
    match e with
    | .normal => r N b τ' H' pc' k
    | e => k e τ' H' pc'
  | .cond x a b => match sev τ x with
    | some (.one (.one (.sc .bool y))) => sbranch y pc (fun pc => r N a τ H pc k) (fun pc => r N b τ H pc k)
    | _ => .stuck 14
  | .block id c => r N c τ H pc fun e τ' H' pc' =>
    match e with
    | .exit id' => if id' = id then k .normal τ' H' pc' else k (.exit id') τ' H' pc'
    | e => k e τ' H' pc'
  | .loop c => sloop r N c fuel τ H pc k
  | .exit id => k (.exit id) τ H pc
  | .goto l => k (.goto l) τ H pc
  | .ret => k .ret τ H pc
  | .scope c => sscope r N c fuel c τ H pc k
  | .rangeFunc .. | .refuse _ => .stuck 15

def sexec (S : SE) : Nat → SRec
  | 0 => fun _ _ _ _ _ _ => .stuck 16
  | n + 1 => fun N c τ H pc k => sbody S n (sexec S n) N c τ H pc k

/-! ### soundness -/
section
variable {S : SE} {x : VCtx} {m : Lm} {g : Sg}

/-- the two machines' states -/
structure Sim (g : Sg) (τ : TS) (H : SH) (pc : PC) (t : T) (h : AH) : Prop where
  t : TR g τ t
  h : SR g H h
  pc : PcOk g pc

def RecSim (x : VCtx) (m : Lm) (g : Sg) (ar : Rec) (r : SRec) : Prop :=
  ∀ N c τ H pc k t h, Sim g τ H pc t h → VC x m g.ρ (r N c τ H pc k) →
    ∃ e t' h' τ' H' pc', ar N c t h = .ret (e, t', h') ∧ Sim g τ' H' pc' t' h' ∧ VC x m g.ρ (k e τ' H' pc')

theorem TR.map_s0 (l : List S0) : (l.map s0).map (S2.den g) = dens g l := by simp [dens, s0, S2.den, S1.den]

theorem sstep_sound (hS : S.Ok) (hx : x.C = g.C) (hg : g.C = S.con) {ar : Rec} {r : SRec} (hr : RecSim x m g ar r) {o : Oper} {τ : TS} {H : SH} {pc : PC} {t : T} {h : AH} (hs : Sim g τ H pc t h)
    {k : S2 → SH → PC → Tree} (hv : VC x m g.ρ (sstep S r o τ H pc k)) :
    ∃ v H' pc' h', astep S.E ar o t h = .ret (v.den g, h') ∧ SR g H' h' ∧ PcOk g pc' ∧ VC x m g.ρ (k v H' pc') := by
  have plain : VC x m g.ρ (sresult (sop S.E τ H o) pc k) → ∃ v H' pc' h', (Res.ofOption (aop S.E t h o) : Res (Value × AH)) = .ret (v.den g, h') ∧ SR g H' h' ∧ PcOk g pc' ∧ VC x m g.ρ (k v H' pc') := fun hv => by
    obtain ⟨cs, v, H', pc', h1, h2, h3, h4⟩ := sresult_sound hx hs.pc hv
    obtain ⟨h', h5, h6⟩ := sop_sound hS.fine.ok hs.t hs.h h1 h2
    exact ⟨v, H', pc', h', by rw [h5]; rfl, h6, h3, h4⟩
  unfold sstep at hv
  unfold astep
  split at hv
  · rename_i f args tys hop
    rw [hop]
    simp only
    split at hv
    · rename_i fid first cap as h1 h2
      have e1 := sev_sound hs.t h1
      have e2 := sevs_sound hs.t h2
      simp only [S2.den, S1.den] at e1
      simp only [e1, e2]
      have eargs : (dens g first).toArray.toList ++ as.map (S2.den g) ++ (dens g cap).toArray.toList = (first.map s0 ++ as ++ cap.map s0).map (S2.den g) := by
        simp only [List.map_append, TR.map_s0]
      rw [eargs]
      split at hv
      · rename_i c hc
        obtain ⟨cs, v, H', pc', q1, q2, q3, q4⟩ := sresult_sound hx hs.pc hv
        obtain ⟨h', q5, q6⟩ := scall_sound hs.h (by rw [hg]; exact hc) q1 q2
        refine ⟨v, H', pc', h', ?_, q6, q3, q4⟩
        unfold acall
        simp only [hS.con _ _ hc, q5, Res.ofOption]
      · split at hv
        · rename_i hown
          split at hv
          · rename_i fn hf
            split at hv
            · rename_i body hb
              obtain ⟨e, t', h', τ', H', pc', q1, q2, q3⟩ := hr _ _ _ _ _ _ _ _ ⟨TS.init_rel _, hs.h, hs.pc⟩ hv
              have fin : (e = .normal ∨ e = .ret) → VC x m g.ρ (match sresults S.E fn τ' H' with
                  | some (cs, v) => musts cs pc' fun pc'' => k v H' pc''
                  | none => .stuck 3) → ∃ v H' pc' h', (match acall S.E ar fid ((first.map s0 ++ as ++ cap.map s0).map (S2.den g)) h with
                    | .fail => Res.ofOption (same h (afall S.E t o))
                    | x => x) = .ret (v.den g, h') ∧ SR g H' h' ∧ PcOk g pc' ∧ VC x m g.ρ (k v H' pc') := by
                intro he hv
                split at hv
                · rename_i cs v hres
                  obtain ⟨c1, pc'', c2, c3⟩ := musts_sound hx q2.pc hv
                  have ev := sresults_sound q2.t q2.h hres c1
                  refine ⟨v, H', pc'', h', ?_, q2.h, c2, c3⟩
                  have : acall S.E ar fid ((first.map s0 ++ as ++ cap.map s0).map (S2.den g)) h = .ret (v.den g, h') := by
                    unfold acall
                    simp only [hS.own _ hown, hf, hb, List.length_map, q1, Res.bind]
                    rcases he with rfl | rfl <;> simp only [ev]
                  rw [this]
                · exact hv.elim
              cases e with
              | normal => exact fin (.inl rfl) q3
              | ret => exact fin (.inr rfl) q3
              | _ => exact q3.elim
            · exact hv.elim
          · exact hv.elim
        · exact hv.elim
    · exact hv.elim
  · rename_i hne
    obtain ⟨v, H', pc', h', q1, q2⟩ := plain hv
    refine ⟨v, H', pc', h', ?_, q2⟩
    split
    · rename_i f args tys hop
      exact absurd hop (hne f args tys)
    · exact q1

theorem TR.upd_lit {τ : TS} {t : T} (ht : TR g τ t) {d : Nat} {y : X} {b : Bool} (hd : τ d = .one (.one (.sc .bool y))) (hb : g.B y = b) : TR g (τ.upd d (lit b)) t := fun i => by
  simp only [TS.upd]
  split
  · rename_i e
    subst e
    rw [ht i, hd]
    simp only [S2.den, S1.den, S0.den, lit, s0, enc, Sg.d, X.den, D.toB_b]
    exact congrArg _ hb
  · exact ht i

theorem sguard_sound {ops : List Oper} {τ : TS} {t : T} (ht : TR g τ t) {o : Oper} :
    (match sguard ops τ o with
    | .yes => wantedA ops t o = true
    | .no => wantedA ops t o = false
    | .ask d y want => τ d = .one (.one (.sc .bool y)) ∧ wantedA ops t o = (g.B y == want)
    | .bad => True) := by
  unfold sguard wantedA
  cases hg : o.guard with
  | none => rfl
  | some p =>
    obtain ⟨j, want⟩ := p
    simp only
    unfold yieldedA
    cases hd : (ops[j]?).bind (·.dst) with
    | none => simp
    | some d =>
      simp only
      have := ht d
      split
      · rename_i heq
        split at heq
        · rename_i b e
          rw [e] at this
          simp only [S2.den, S1.den, S0.den, enc, Sg.d, X.den, D.toB_b] at this
          split at heq
          · rename_i hbw; rw [this]; simpa using hbw
          · cases heq
        · cases heq
        · cases heq
        · cases heq
      · rename_i heq
        split at heq
        · rename_i b e
          rw [e] at this
          simp only [S2.den, S1.den, S0.den, enc, Sg.d, X.den, D.toB_b] at this
          split at heq
          · cases heq
          · rename_i hbw; rw [this]; simpa using hbw
        · cases heq
        · rename_i e
          rw [e] at this
          simp only [S2.den, S1.den, S0.den, Cst.val] at this
          rw [this]; rfl
        · cases heq
      · rename_i d' y w heq
        split at heq
        · split at heq <;> cases heq
        · rename_i y' e _
          cases heq
          refine ⟨by assumption, ?_⟩
          rw [this]
          simp_all only [S2.den, S1.den, S0.den, enc]
          simp [Sg.B]
        · cases heq
        · cases heq
      · trivial

end

end Go.AM
