/-
  AM, part 26: trees of what must hold; code without cuts.
-/
import Derived.Test.YtelcedajmnblbaaAm25
set_option linter.unusedVariables false
set_option linter.unusedSimpArgs false
namespace Go.AM

inductive Tree where
  | stuck (n : Nat)
  | must (c : X) (t : Tree)
  | br (c : X) (a b : Tree)
  | ret (x : X)
  | loop (key lo cnt : Nat) (θ : List (Nat × X)) (t : Tree)
  | again (key lo cnt : Nat) (θ : List (Nat × X))

/-- of each loop that runs: its measure, and the letters ahead of it -/
abbrev Lm := Nat → Nat × (Nat → D)
def upN (m : Lm) (k n : Nat) (ρ : Nat → D) : Lm := fun i => if i = k then (n, ρ) else m i
def subR (C : FuncId → Option Con) (ρ : Nat → D) (θ : List (Nat × X)) : Nat → D := fun i => match θ.lookup i with | some x => x.den C ρ | none => ρ i
def overR (ρ : Nat → D) (lo cnt : Nat) (d : Nat → D) : Nat → D := fun i => if lo ≤ i ∧ i < lo + cnt then d i else ρ i

/-- the loops' invariants and measures, and what must come out -/
structure VCtx where
  C : FuncId → Option Con
  J : Nat → (Nat → D) → Prop
  ms : Nat → (Nat → D) → Nat
  R : D → Prop

def VC (x : VCtx) : (m : Lm) → (ρ : Nat → D) → Tree → Prop
  | _, _, .stuck _ => False
  | m, ρ, .must c t => (c.den x.C ρ).toB = true ∧ ((c.den x.C ρ).toB = true → VC x m ρ t)
  | m, ρ, .br c a b => ((c.den x.C ρ).toB = true → VC x m ρ a) ∧ ((c.den x.C ρ).toB = false → VC x m ρ b)
  | _, ρ, .ret e => x.R (e.den x.C ρ)
  | m, ρ, .loop k lo cnt θ t => x.J k (overR ρ lo cnt (subR x.C ρ θ)) ∧ ∀ d : Nat → D, x.J k (overR ρ lo cnt d) → VC x (upN m k (x.ms k (overR ρ lo cnt d)) ρ) (overR ρ lo cnt d) t
  | m, ρ, .again k lo cnt θ => x.J k (overR (m k).2 lo cnt (subR x.C ρ θ)) ∧ x.ms k (overR (m k).2 lo cnt (subR x.C ρ θ)) < (m k).1

/-- what is known on the way -/
abbrev PC := List (X × Bool)
def PcOk (g : Sg) (pc : PC) : Prop := ∀ p ∈ pc, g.B p.1 = p.2

def find (c : X) : PC → Option Bool
  | [] => none
  | (x, b) :: pc => if c.same x then some b else find c pc

def look (pc : PC) : X → Option Bool
  | .b x => some x
  | .not x => (look pc x).map (!·)
  | c => find c pc

theorem find_sound {g : Sg} {c : X} {b : Bool} : ∀ {pc : PC}, PcOk g pc → find c pc = some b → g.B c = b
  | [], _, h => by cases h
  | (x, b') :: pc, hp, h => by
    simp only [find] at h
    split at h
    · rename_i e
      obtain rfl := Option.some.inj h
      rw [X.same_eq e]
      exact hp (x, b') (by simp)
    · exact find_sound (fun p hm => hp p (List.mem_cons_of_mem _ hm)) h

theorem look_sound {g : Sg} {pc : PC} (hp : PcOk g pc) : ∀ {c : X} {b : Bool}, look pc c = some b → g.B c = b := by
  intro c
  induction c with
  | b x => intro b h; simp only [look, Option.some.injEq] at h; subst h; rfl
  | not x ih =>
    intro b h
    simp only [look] at h
    obtain ⟨y, h1, rfl⟩ := Option.map_eq_some_iff.1 h
    have := ih h1
    simp only [Sg.B, Sg.d, X.den, D.toB_b] at this ⊢
    rw [this]
  | _ => intro b h; exact find_sound hp h

def musts : List X → PC → (PC → Tree) → Tree
  | [], pc, k => k pc
  | c :: cs, pc, k =>
    match look pc c with
    | some true => musts cs pc k
    | some false => .stuck 1
    | none => .must c (musts cs ((c, true) :: pc) k)

/-- a branch; a negated one the other way round -/
def sbranch : X → PC → (PC → Tree) → (PC → Tree) → Tree
  | .not x, pc, kt, kf => sbranch x pc kf kt
  | c, pc, kt, kf =>
    match look pc c with
    | some true => kt pc
    | some false => kf pc
    | none => .br c (kt ((c, true) :: pc)) (kf ((c, false) :: pc))

section
variable {x : VCtx} {m : Lm} {g : Sg}

theorem PcOk.cons {pc : PC} (hp : PcOk g pc) {c : X} {b : Bool} (h : g.B c = b) : PcOk g ((c, b) :: pc) := fun p hm => by
  rcases List.mem_cons.1 hm with rfl | hm
  · exact h
  · exact hp p hm

theorem musts_sound (hC : x.C = g.C) : ∀ {cs : List X} {pc : PC} {k : PC → Tree}, PcOk g pc → VC x m g.ρ (musts cs pc k) → (∀ c ∈ cs, g.B c = true) ∧ ∃ pc', PcOk g pc' ∧ VC x m g.ρ (k pc')
  | [], pc, k, hp, hv => ⟨fun _ h => (by cases h), pc, hp, hv⟩
  | c :: cs, pc, k, hp, hv => by
    simp only [musts] at hv
    split at hv
    · rename_i e
      obtain ⟨h1, h2⟩ := musts_sound hC hp hv
      exact ⟨fun c' hm => by
        rcases List.mem_cons.1 hm with rfl | hm
        · exact look_sound hp e
        · exact h1 c' hm, h2⟩
    · exact hv.elim
    · simp only [VC] at hv
      have hb : g.B c = true := by have := hv.1; rw [hC] at this; exact this
      obtain ⟨h1, h2⟩ := musts_sound hC (hp.cons hb) (hv.2 hv.1)
      exact ⟨fun c' hm => by
        rcases List.mem_cons.1 hm with rfl | hm
        · exact hb
        · exact h1 c' hm, h2⟩

theorem sbranch_core (hC : x.C = g.C) {c : X} {pc : PC} {kt kf : PC → Tree} (hp : PcOk g pc)
    (hv : VC x m g.ρ (match look pc c with
      | some true => kt pc
      | some false => kf pc
      | none => .br c (kt ((c, true) :: pc)) (kf ((c, false) :: pc)))) :
    ∃ pc', PcOk g pc' ∧ ((g.B c = true ∧ VC x m g.ρ (kt pc')) ∨ (g.B c = false ∧ VC x m g.ρ (kf pc'))) := by
  split at hv
  · rename_i e; exact ⟨pc, hp, .inl ⟨look_sound hp e, hv⟩⟩
  · rename_i e; exact ⟨pc, hp, .inr ⟨look_sound hp e, hv⟩⟩
  · simp only [VC] at hv
    cases hb : g.B c with
    | true =>
      refine ⟨_, hp.cons hb, .inl ⟨rfl, hv.1 ?_⟩⟩
      rw [hC]; exact hb
    | false =>
      refine ⟨_, hp.cons hb, .inr ⟨rfl, hv.2 ?_⟩⟩
      rw [hC]; exact hb

theorem sbranch_sound (hC : x.C = g.C) : ∀ {c : X} {pc : PC} {kt kf : PC → Tree}, PcOk g pc → VC x m g.ρ (sbranch c pc kt kf) →
    ∃ pc', PcOk g pc' ∧ ((g.B c = true ∧ VC x m g.ρ (kt pc')) ∨ (g.B c = false ∧ VC x m g.ρ (kf pc'))) := by
  intro c
  induction c with
  | not y ih =>
    intro pc kt kf hp hv
    simp only [sbranch] at hv
    obtain ⟨pc', hp', h⟩ := ih hp hv
    have e : g.B (.not y) = !(g.B y) := rfl
    refine ⟨pc', hp', ?_⟩
    rcases h with ⟨h1, h2⟩ | ⟨h1, h2⟩
    · exact .inr ⟨by rw [e, h1]; rfl, h2⟩
    · exact .inl ⟨by rw [e, h1]; rfl, h2⟩
  | _ => intro pc kt kf hp hv; exact sbranch_core hC hp hv
end

def sresult : SRes → PC → (S2 → SH → PC → Tree) → Tree
  | .stuck, _, _ => .stuck 2
  | .one cs v H, pc, k => musts cs pc fun pc => k v H pc
  | .br c a b, pc, k => sbranch c pc (fun pc => sresult a pc k) (fun pc => sresult b pc k)

theorem sresult_sound {x : VCtx} {m : Lm} {g : Sg} (hC : x.C = g.C) : ∀ {r : SRes} {pc : PC} {k : S2 → SH → PC → Tree}, PcOk g pc → VC x m g.ρ (sresult r pc k) →
    ∃ cs v H pc', r.sel g = some (cs, v, H) ∧ (∀ c ∈ cs, g.B c = true) ∧ PcOk g pc' ∧ VC x m g.ρ (k v H pc')
  | .stuck, _, _, _, hv => hv.elim
  | .one cs v H, pc, k, hp, hv => by
    obtain ⟨h1, pc', h2, h3⟩ := musts_sound hC hp hv
    exact ⟨cs, v, H, pc', rfl, h1, h2, h3⟩
  | .br c a b, pc, k, hp, hv => by
    obtain ⟨pc', hp', h⟩ := sbranch_sound hC hp hv
    rcases h with ⟨h1, h2⟩ | ⟨h1, h2⟩
    · obtain ⟨cs, v, H, pc'', q1, q2⟩ := sresult_sound hC hp' h2
      exact ⟨cs, v, H, pc'', by simp only [SRes.sel, h1, if_true, q1], q2⟩
    · obtain ⟨cs, v, H, pc'', q1, q2⟩ := sresult_sound hC hp' h2
      exact ⟨cs, v, H, pc'', by simp only [SRes.sel, h1, Bool.false_eq_true, if_false, q1], q2⟩

/-! ### code -/
abbrev KX := Exit → TS → SH → PC → Tree
abbrev SRec := Nat → Code → TS → SH → PC → KX → Tree

def TS.init (args : List S2) : TS := fun i => (args[i]?).getD (s0 (.cst .undef))

theorem TS.init_rel {g : Sg} (args : List S2) : TR g (TS.init args) (T.init (args.map (S2.den g))) := fun i => by
  simp only [TS.init, T.init, List.getElem?_map]
  cases args[i]? <;> rfl

def sresultV (E : Env) (H : SH) (τ : TS) : ResultVar → Option (List X × S2)
  | .tmp i => some ([], τ i)
  | .cell a ty => match τ a with
    | .one (.one (.ptr b es i off)) => (sload E H ty b es i off).map fun r => (r.1, .one r.2)
    | _ => none

def sresultsL (E : Env) (H : SH) (τ : TS) : List ResultVar → Option (List X × List S2)
  | [] => some ([], [])
  | r :: rs => match sresultV E H τ r, sresultsL E H τ rs with
    | some (c1, v), some (c2, vs) => some (c1 ++ c2, v :: vs)
    | _, _ => none

def ones1 : List S2 → Option (List S1)
  | [] => some []
  | .one s :: l => (ones1 l).map (s :: ·)
  | _ => none

def sresults (E : Env) (fn : Func) (τ : TS) (H : SH) : Option (List X × S2) :=
  match sresultsL E H τ fn.results.toList with
  | some (cs, [v]) => some (cs, v)
  | some (cs, vs) => (ones1 vs).map fun l => (cs, .tup l)
  | none => none

theorem sresultV_sound {E : Env} {g : Sg} {τ : TS} {t : T} {H : SH} {h : AH} (ht : TR g τ t) (hr : SR g H h) {r : ResultVar} {cs : List X} {v : S2} (hs : sresultV E H τ r = some (cs, v)) (hc : ∀ c ∈ cs, g.B c = true) :
    aresult E h t r = some (v.den g) := by
  cases r with
  | tmp i => simp only [sresultV, Option.some.injEq, Prod.mk.injEq] at hs; obtain ⟨_, rfl⟩ := hs; simp only [aresult, ht i]
  | cell a ty =>
    simp only [sresultV] at hs
    split at hs
    · rename_i b es i off e
      obtain ⟨⟨cs', u⟩, h1, h2⟩ := Option.map_eq_some_iff.1 hs
      simp only [Prod.mk.injEq] at h2
      obtain ⟨rfl, rfl⟩ := h2
      simp only [aresult, ht a, e, S2.den, S1.den, S0.den]
      exact sload_sound hr h1 hc
    · cases hs

theorem sresultsL_sound {E : Env} {g : Sg} {τ : TS} {t : T} {H : SH} {h : AH} (ht : TR g τ t) (hr : SR g H h) : ∀ {rs : List ResultVar} {cs : List X} {vs : List S2}, sresultsL E H τ rs = some (cs, vs) → (∀ c ∈ cs, g.B c = true) →
    aresultsL E h t rs = some (vs.map (S2.den g))
  | [], cs, vs, hs, hc => by simp only [sresultsL, Option.some.injEq, Prod.mk.injEq] at hs; obtain ⟨_, rfl⟩ := hs; rfl
  | r :: rs, cs, vs, hs, hc => by
    simp only [sresultsL] at hs
    split at hs
    · rename_i c1 v c2 vs' h1 h2
      simp only [Option.some.injEq, Prod.mk.injEq] at hs
      obtain ⟨rfl, rfl⟩ := hs
      simp only [aresultsL, sresultV_sound ht hr h1 (fun c hm => hc c (List.mem_append_left _ hm)), sresultsL_sound ht hr h2 (fun c hm => hc c (List.mem_append_right _ hm)), List.map_cons]
    · cases hs

theorem ones1_den {g : Sg} : ∀ {l : List S2} {r : List S1}, ones1 l = some r → l.map (S2.den g) = r.map (S1.den g)
  | [], r, h => by simp only [ones1, Option.some.injEq] at h; subst h; rfl
  | .one s :: l, r, h => by
    simp only [ones1] at h
    obtain ⟨r', h1, rfl⟩ := Option.map_eq_some_iff.1 h
    simp only [List.map_cons, ones1_den (g := g) h1]
    rfl
  | .tup _ :: l, r, h => by cases h

theorem sresults_sound {E : Env} {g : Sg} {τ : TS} {t : T} {H : SH} {h : AH} (ht : TR g τ t) (hr : SR g H h) {fn : Func} {cs : List X} {v : S2} (hs : sresults E fn τ H = some (cs, v)) (hc : ∀ c ∈ cs, g.B c = true) :
    aresults E fn t h = some (v.den g) := by
  unfold sresults at hs
  unfold aresults
  split at hs
  · rename_i cs' u h1
    simp only [Option.some.injEq, Prod.mk.injEq] at hs
    obtain ⟨rfl, rfl⟩ := hs
    rw [sresultsL_sound ht hr h1 hc]
    rfl
  · rename_i cs' us hne h1
    obtain ⟨l, h2, h3⟩ := Option.map_eq_some_iff.1 hs
    simp only [Prod.mk.injEq] at h3
    obtain ⟨rfl, rfl⟩ := h3
    rw [sresultsL_sound ht hr h1 hc]
    rw [ones1_den (g := g) h2]
    match l with
    | [] => rfl
    | [w] =>
      exfalso
      match us with
      | [] => cases h2
      | [.one s] => exact hne _ rfl
      | [.tup _] => cases h2
      | .one s :: .one s' :: r =>
        simp only [ones1] at h2
        obtain ⟨r', q1, q2⟩ := Option.map_eq_some_iff.1 h2
        obtain ⟨r'', q3, rfl⟩ := Option.map_eq_some_iff.1 q1
        simp at q2
      | .one s :: .tup _ :: r => simp [ones1] at h2
      | .tup _ :: _ :: r => cases h2
    | w :: w' :: l => rfl
  · cases hs

end Go.AM
