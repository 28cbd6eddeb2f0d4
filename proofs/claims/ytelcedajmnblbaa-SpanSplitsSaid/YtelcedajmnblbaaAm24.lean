/-
  AM, part 24: one symbolic operation.
-/
import Derived.Test.YtelcedajmnblbaaAm23
set_option linter.unusedVariables false
set_option linter.unusedSimpArgs false
namespace Go.AM

theorem S2.den_one {g : Sg} (s : S1) : S2.den g (.one s) = s.den g := rfl
theorem S1.den_one {g : Sg} (s : S0) : S1.den g (.one s) = s.den g := rfl

theorem Sg.d_ite (g : Sg) (c x y : X) : g.d (xite c x y) = if g.B c = true then g.d x else g.d y := xite_den c x y
theorem Sg.I_ite (g : Sg) (c x y : X) : g.I (xite c x y) = if g.B c = true then g.I x else g.I y := by
  unfold Sg.I
  rw [Sg.d_ite]
  split <;> rfl
theorem Sg.B_lt_iff (g : Sg) (x y : X) : g.B (xlt x y) = true ↔ g.I x < g.I y := by simp [Sg.B, Sg.d, Sg.I]

def pures (H : SH) : Option (List X × S2) → SRes
  | some (cs, v) => .one cs v H
  | none => .stuck

def pure1 (H : SH) : Option S2 → SRes
  | some v => .one [] v H
  | none => .stuck

theorem pure1_sel {g : Sg} {H H' : SH} {x : Option S2} {cs : List X} {v : S2} (h : (pure1 H x).sel g = some (cs, v, H')) : x = some v ∧ cs = [] ∧ H' = H := by
  cases x with
  | none => cases h
  | some y =>
    simp only [pure1, SRes.sel, Option.some.injEq, Prod.mk.injEq] at h
    obtain ⟨rfl, rfl, rfl⟩ := h
    exact ⟨rfl, rfl, rfl⟩
theorem pures_sel {g : Sg} {H H' : SH} {x : Option (List X × S2)} {cs : List X} {v : S2} (h : (pures H x).sel g = some (cs, v, H')) : x = some (cs, v) ∧ H' = H := by
  cases x with
  | none => cases h
  | some y =>
    obtain ⟨a, b⟩ := y
    simp only [pures, SRes.sel, Option.some.injEq, Prod.mk.injEq] at h
    obtain ⟨rfl, rfl, rfl⟩ := h
    exact ⟨rfl, rfl⟩

def spick (c a b : Option S2) : Option S2 :=
  match c, a, b with
  | some (.one (.one (.sc .bool (.b true)))), a, _ => a
  | some (.one (.one (.sc .bool (.b false)))), _, b => b
  | some (.one (.one (.sc .bool c))), some (.one (.one (.sc k x))), some (.one (.one (.sc k' y))) => if k = k' then some (s0 (.sc k (xite c x y))) else none
  | _, _, _ => none

def sptr0 (H : SH) : S2 := s0 (.ptr H.n 0 (.i 0) 0)
theorem sptr0_den {g : Sg} {H : SH} {h : AH} (hr : SR g H h) : (sptr0 H).den g = .pointer (some ⟨h.n, 0, none⟩) := by
  have := hr.next 0
  simp only [Nat.add_zero] at this
  simp [sptr0, s0, S2.den, S1.den, S0.den, this]

def sones : List S2 → Option (List S0)
  | [] => some []
  | .one (.one s) :: l => (sones l).map (s :: ·)
  | _ => none

theorem sones_den {g : Sg} : ∀ {l : List S2} {r : List S0}, sones l = some r → l.map (S2.den g) = dens g r
  | [], r, h => by simp only [sones, Option.some.injEq] at h; subst h; rfl
  | v :: l, r, h => by
    unfold sones at h
    split at h
    · rename_i e; cases e
    · rename_i s l' e
      obtain ⟨rfl, rfl⟩ := List.cons.inj e
      obtain ⟨r', h1, rfl⟩ := Option.map_eq_some_iff.1 h
      simp only [List.map_cons, dens]
      have := sones_den (g := g) h1
      rw [this]; rfl
    · cases h

def smin (k : K) (mx : Bool) : X → List S2 → Option X
  | m, [] => some m
  | m, .one (.one (.sc k' y)) :: r => if k = k' then smin k mx (if mx then xite (xlt m y) y m else xite (xlt y m) y m) r else none
  | _, _ => none

theorem smin_den {g : Sg} {ik : IntKind} {mx : Bool} : ∀ {l : List S2} {m r : X}, smin (.int ik) mx m l = some r →
    (if mx then maxList (g.I m) (l.map (S2.den g)) ik else minList (g.I m) (l.map (S2.den g)) ik) = some (g.I r)
  | [], m, r, h => by simp only [smin, Option.some.injEq] at h; subst h; cases mx <;> rfl
  | v :: l, m, r, h => by
    unfold smin at h
    split at h
    · rename_i e; cases e
    · rename_i m' k' y l' e
      obtain ⟨rfl, rfl⟩ := List.cons.inj e
      split at h
      · rename_i hk
        subst hk
        have ih := smin_den (g := g) h
        cases mx with
        | true =>
          simp only [if_true] at ih ⊢
          rw [← ih]
          simp only [List.map_cons, S2.den, S1.den, S0.den, enc, maxList, if_true]
          congr 1
          rw [Sg.I_ite]
          split
          · rename_i hh; rw [if_pos ((Sg.B_lt_iff g _ _).2 hh)]; rfl
          · rename_i hh; rw [if_neg (fun h' => hh ((Sg.B_lt_iff g _ _).1 h'))]
        | false =>
          simp only [Bool.false_eq_true, if_false] at ih ⊢
          rw [← ih]
          simp only [List.map_cons, S2.den, S1.den, S0.den, enc, minList, if_true]
          congr 1
          rw [Sg.I_ite]
          split
          · rename_i hh; rw [if_pos ((Sg.B_lt_iff g _ _).2 hh)]; rfl
          · rename_i hh; rw [if_neg (fun h' => hh ((Sg.B_lt_iff g _ _).1 h'))]
      · cases h
    · cases h

def sbuiltin (E : Env) (H : SH) (b : Builtin) (tys : List TypeId) (vs : List S2) : SRes :=
  match b, tys, vs with
  | .len, ty :: _, .one (.one (.sl _ _ _ n _)) :: _ => match E.under ty with | some (.slice _) => .one [xle (.i 0) n] (s0 (.sc (.int .i64) n)) H | _ => .stuck
  | .len, ty :: _, .one (.one (.cst .nilSlice)) :: _ => match E.under ty with | some (.slice _) => .one [] (s0 (.sc (.int .i64) (.i 0))) H | _ => .stuck
  | .min, _, .one (.one (.sc (.int k) x)) :: r => pure1 H ((smin (.int k) false x r).map fun m => s0 (.sc (.int k) m))
  | .max, _, .one (.one (.sc (.int k) x)) :: r => pure1 H ((smin (.int k) true x r).map fun m => s0 (.sc (.int k) m))
  | .append, [sT, xT], [.one (.one s), .one (.one x)] => sappend E H sT xT s x
  | _, _, _ => .stuck

def s01 (x : Option S1) : Option S2 := x.map .one
def s00 (x : Option S0) : Option S2 := x.map s0

def sop (E : Env) (τ : TS) (H : SH) (o : Oper) : SRes :=
  match o.op with
  | .move x | .assign x => pure1 H (sev τ x)
  | .pick c a b => pure1 H (spick (sev τ c) (sev τ a) (sev τ b))
  | .alloc elem => match E.info elem with
    | some (_, _, z) => match zcells z with
      | some zl => .one [] (sptr0 H) (H.push (.cells zl (esOf E elem) true true))
      | none => .stuck
    | none => .stuck
  | .box elem x => match (sev τ x).bind S2.cells? with
    | some l => .one [] (sptr0 H) (H.push (.cells l (esOf E elem) true true))
    | none => .stuck
  | .build ty parts => match sevp τ parts.toList with
    | some ps => pure1 H (s01 (sbuild E ty ps))
    | none => .stuck
  | .buildSlice ty len parts => match sevp τ parts.toList with
    | some ps => match sbuildSlice E H ty len ps with
      | some (v, H') => .one [] v H'
      | none => .stuck
    | none => .stuck
  | .load ty a => match sev τ a with
    | some (.one (.one (.ptr b es i off))) => pures H ((sload E H ty b es i off).map fun r => (r.1, .one r.2))
    | _ => .stuck
  | .store ty a x => match sev τ a, (sev τ x).bind S2.cells?, E.info ty with
    | some (.one (.one (.ptr b es i off))), some l, some (n, _, _) =>
      if l.length = n then match ssetN H b es i off l with
        | some (cs, H') => .one cs (s0 (.cst .undef)) H'
        | none => .stuck
      else .stuck
    | _, _, _ => .stuck
  | .nilCheck x => match sev τ x with
    | some (.one (.one (.ptr b es i off))) => .one [] (s0 (.ptr b es i off)) H
    | _ => .stuck
  | .binOp op ty x y _ => match sev τ x, sev τ y with
    | some (.one a), some (.one b) => match sbin E op ty a b with
      | some s => .one (sdivc op a b) (s0 s) H
      | none => if (match a, b with | .agg _, .agg _ => true | _, _ => false) then pure1 H (sfall E τ o) else .stuck
    | _, _ => .stuck
  | .makeFunc fn first captured => match fn, (sevs τ first.toList).bind sones, (sevs τ captured.toList).bind sones with
    | .func f, some a, some b => .one [] (.one (.clo f a b)) H
    | _, _, _ => .stuck
  | .slice ty x lo hi mx => match sev τ x, numo (lo.bind (sev τ)), numo (hi.bind (sev τ)), numo (mx.bind (sev τ)) with
    | some (.one v), some l, some u, some m =>
      if (lo.isSome == l.isSome) && (hi.isSome == u.isSome) && (mx.isSome == m.isSome) then pures H ((sslice E H ty v l u m).map fun r => (r.1, s0 r.2)) else .stuck
    | _, _, _, _ => .stuck
  | .fieldAddr s x f => match sev τ x with
    | some (.one v) => pure1 H (s00 (sfieldAddr E s v f))
    | _ => .stuck
  | .field s x f => match sev τ x with
    | some (.one v) => pure1 H (s01 (sfield E s v f))
    | _ => .stuck
  | .indexAddr ty x i => match sev τ x, sev τ i with
    | some (.one v), some (.one j) => pures H ((sindexAddr E ty v j).map fun r => (r.1, s0 r.2))
    | _, _ => .stuck
  | .index ty x i => match sev τ x, sev τ i with
    | some (.one v), some (.one j) => pures H ((sindex E ty v j).map fun r => (r.1, .one r.2))
    | _, _ => .stuck
  | .extract x i => match sev τ x with
    | some (.tup l) => pure1 H (s01 l[i]?)
    | _ => .stuck
  | .makeSlice ty l c => match sev τ l, sev τ c with
    | some (.one (.one (.sc (.int _) a))), some (.one (.one (.sc (.int _) b))) => match smakeSlice E H ty a b with
      | some (cs, v, H') => .one cs v H'
      | none => .stuck
    | _, _ => .stuck
  | .unOp _ _ _ | .convert _ _ _ => pure1 H (sfall E τ o)
  | .call { callee := .builtin b, args, argTypes } => match sevs τ args.toList with
    | some vs => sbuiltin E H b argTypes.toList vs
    | none => .stuck
  | _ => .stuck

theorem spick_den {g : Sg} {c a b : Option S2} {v : S2} (h : spick c a b = some v) : (c.map (S2.den g) = some (.bool true) ∧ a = some v) ∨ (c.map (S2.den g) = some (.bool false) ∧ b = some v) ∨
    (∃ a' b' x, c.map (S2.den g) = some (.bool x) ∧ a = some a' ∧ b = some b' ∧ v.den g = if x then a'.den g else b'.den g) := by
  unfold spick at h
  split at h
  · exact .inl ⟨rfl, h⟩
  · exact .inr (.inl ⟨rfl, h⟩)
  · rename_i c' k x k' y _ _
    split at h
    · rename_i hk
      subst hk
      obtain rfl := Option.some.inj h
      refine .inr (.inr ⟨_, _, g.B c', rfl, rfl, rfl, ?_⟩)
      simp only [s0, S2.den, S1.den, S0.den, Sg.d_ite]
      by_cases hh : g.B c' = true
      · rw [if_pos hh, if_pos hh]
      · rw [if_neg hh, if_neg hh]
    · cases h
  · cases h

theorem evo_of {g : Sg} {τ : TS} {t : T} (ht : TR g τ t) {x : Option Operand} {l : Option (K × X)} (h : numo (x.bind (sev τ)) = some l) (hs : (x.isSome == l.isSome) = true) :
    evo t x = some (ivo g l) ∧ ∀ k y, l = some (k, y) → ∃ k', k = .int k' := by
  obtain ⟨h1, h2⟩ := numo_den (g := g) h
  refine ⟨?_, h2⟩
  cases x with
  | none =>
    cases l with
    | none => rfl
    | some p => simp at hs
  | some o =>
    cases l with
    | none => simp at hs
    | some p =>
      obtain ⟨k, y⟩ := p
      simp only [Option.bind_some] at h h1
      cases hv : sev τ o with
      | none => rw [hv] at h1; cases h1
      | some v =>
        rw [hv] at h1
        simp only [Option.map_some, ivo] at h1
        simp only [evo, sev_sound ht hv, Option.map_some, ivo, h1]

theorem sop_sound {E : Env} (hE : E.Ok) {g : Sg} {τ : TS} {t : T} {H H' : SH} {h : AH} (ht : TR g τ t) (hr : SR g H h) {o : Oper} {cs : List X} {v : S2}
    (hs : (sop E τ H o).sel g = some (cs, v, H')) (hc : ∀ c ∈ cs, g.B c = true) : ∃ h', aop E t h o = some (v.den g, h') ∧ SR g H' h' := by
  obtain ⟨dst, op, type, pos, after, guard⟩ := o
  cases op <;> simp only [sop] at hs <;> try (cases hs; done)
  case move x =>
    obtain ⟨h1, rfl, rfl⟩ := pure1_sel hs
    exact ⟨h, by simp only [aop, sev_sound ht h1, same], hr⟩
  case assign x =>
    obtain ⟨h1, rfl, rfl⟩ := pure1_sel hs
    exact ⟨h, by simp only [aop, sev_sound ht h1, same], hr⟩
  case pick c a b =>
    obtain ⟨h1, rfl, rfl⟩ := pure1_sel hs
    refine ⟨h, ?_, hr⟩
    have ec : ∀ x, (sev τ c).map (S2.den g) = some (.bool x) → ev t c = some (.bool x) := fun x hx => by
      obtain ⟨y, hy, e⟩ := Option.map_eq_some_iff.1 hx
      rw [sev_sound ht hy, e]
    rcases spick_den (g := g) h1 with ⟨q1, q2⟩ | ⟨q1, q2⟩ | ⟨a', b', x, q1, q2, q3, q4⟩
    · simp only [aop, ec _ q1, sev_sound ht q2, same]
    · simp only [aop, ec _ q1, sev_sound ht q2, same]
    · cases x with
      | true => simp only [aop, ec _ q1, sev_sound ht q2, same, q4, if_true]
      | false => simp only [aop, ec _ q1, sev_sound ht q3, same, q4, Bool.false_eq_true, if_false]
  case alloc elem =>
    split at hs
    · rename_i _ _ z h1
      split at hs
      · rename_i zl hz
        simp only [SRes.sel, Option.some.injEq, Prod.mk.injEq] at hs
        obtain ⟨rfl, rfl, rfl⟩ := hs
        obtain ⟨a, b⟩ := zcells_den hz g
        exact ⟨_, by simp only [aop, h1, a, if_true, b, sptr0_den hr]; rfl, hr.push _⟩
      · cases hs
    · cases hs
  case box elem x =>
    split at hs
    · rename_i l h1
      obtain ⟨u, h2, h3⟩ := Option.bind_eq_some_iff.1 h1
      simp only [SRes.sel, Option.some.injEq, Prod.mk.injEq] at hs
      obtain ⟨rfl, rfl, rfl⟩ := hs
      obtain ⟨a, _⟩ := S2.cells?_den (g := g) h3
      exact ⟨_, by simp only [aop, sev_sound ht h2, a, sptr0_den hr]; rfl, hr.push _⟩
    · cases hs
  case build ty parts =>
    split at hs
    · rename_i ps h1
      obtain ⟨h2, rfl, rfl⟩ := pure1_sel hs
      obtain ⟨s, h3, rfl⟩ := Option.map_eq_some_iff.1 h2
      exact ⟨h, by simp only [aop, sevp_sound ht h1, sbuild_sound h3, same, S2.den_one], hr⟩
    · cases hs
  case buildSlice ty len parts =>
    split at hs
    · rename_i ps h1
      split at hs
      · rename_i u H₁ h2
        simp only [SRes.sel, Option.some.injEq, Prod.mk.injEq] at hs
        obtain ⟨rfl, rfl, rfl⟩ := hs
        obtain ⟨h', h3, h4⟩ := sbuildSlice_sound hr h2
        exact ⟨h', by simp only [aop, sevp_sound ht h1, h3], h4⟩
      · cases hs
    · cases hs
  case load ty a =>
    split at hs
    · rename_i b es i off h1
      obtain ⟨h2, rfl⟩ := pures_sel hs
      obtain ⟨⟨cs', u⟩, h3, h4⟩ := Option.map_eq_some_iff.1 h2
      simp only [Prod.mk.injEq] at h4
      obtain ⟨rfl, rfl⟩ := h4
      have e := sev_sound ht h1
      simp only [S2.den, S1.den, S0.den] at e
      exact ⟨h, by simp only [aop, e, sload_sound hr h3 hc, same, S2.den_one], hr⟩
    · cases hs
  case store ty a x =>
    split at hs
    · rename_i b es i off l n _ _ h1 h2 h3
      split at hs
      · rename_i hl
        split at hs
        · rename_i cs' H₁ h4
          simp only [SRes.sel, Option.some.injEq, Prod.mk.injEq] at hs
          obtain ⟨rfl, rfl, rfl⟩ := hs
          obtain ⟨u, h5, h6⟩ := Option.bind_eq_some_iff.1 h2
          obtain ⟨a1, a2⟩ := S2.cells?_den (g := g) h6
          obtain ⟨h', h7, h8⟩ := ssetN_sound hr a2 h4 hc
          have e := sev_sound ht h1
          simp only [S2.den, S1.den, S0.den] at e
          refine ⟨h', ?_, h8⟩
          simp only [aop, e, sev_sound ht h5, astore, h3, a1, dens_length, hl, if_true, h7]
          rfl
        · cases hs
      · cases hs
    · cases hs
  case nilCheck x =>
    split at hs
    · rename_i b es i off h1
      simp only [SRes.sel, Option.some.injEq, Prod.mk.injEq] at hs
      obtain ⟨rfl, rfl, rfl⟩ := hs
      have e := sev_sound ht h1
      exact ⟨h, by simp only [aop, e, S2.den, S1.den, S0.den, s0], hr⟩
    · cases hs
  case binOp op ty x y yt =>
    split at hs
    · rename_i a b ha hb
      have ea := sev_sound ht ha
      have eb := sev_sound ht hb
      split at hs
      · rename_i s h1
        simp only [SRes.sel, Option.some.injEq, Prod.mk.injEq] at hs
        obtain ⟨rfl, rfl, rfl⟩ := hs
        exact ⟨h, by simp only [aop, ea, eb, S2.den_one, sbin_sound h1 hc, same, orElse, s0, S1.den_one], hr⟩
      · rename_i h1
        split at hs
        · rename_i la lb
          obtain ⟨h2, rfl, rfl⟩ := pure1_sel hs
          have hf := sfall_sound hE ht h2
          refine ⟨h, ?_, hr⟩
          have hfb : fastBin E op ty (S1.den g (.agg la)) (S1.den g (.agg lb)) = none := by
            simp only [S1.den, fastBin]
            have : nilEq E ty (.agg (dens g la).toArray) (.agg (dens g lb).toArray) = none := by
              unfold nilEq
              simp [isNilA, isNil]
            rw [this]
            cases op <;> rfl
          simp only [aop, ea, eb, S2.den_one, hfb, same, orElse, hf]
        · cases hs
    · cases hs
  case makeFunc fn first captured =>
    split at hs
    · rename_i f a b h1 h2
      simp only [SRes.sel, Option.some.injEq, Prod.mk.injEq] at hs
      obtain ⟨rfl, rfl, rfl⟩ := hs
      obtain ⟨l1, p1, p2⟩ := Option.bind_eq_some_iff.1 h1
      obtain ⟨l2, q1, q2⟩ := Option.bind_eq_some_iff.1 h2
      exact ⟨h, by simp only [aop, sevs_sound ht p1, sevs_sound ht q1, sones_den (g := g) p2, sones_den (g := g) q2, S2.den, S1.den], hr⟩
    · cases hs
  case slice ty x lo hi mx =>
    split at hs
    · rename_i u l hh m h1 h2 h3 h4
      split at hs
      · rename_i hsome
        simp only [Bool.and_eq_true] at hsome
        obtain ⟨h5, rfl⟩ := pures_sel hs
        obtain ⟨⟨cs', w⟩, h6, h7⟩ := Option.map_eq_some_iff.1 h5
        simp only [Prod.mk.injEq] at h7
        obtain ⟨rfl, rfl⟩ := h7
        obtain ⟨e2, k2⟩ := evo_of ht h2 hsome.1.1
        obtain ⟨e3, k3⟩ := evo_of ht h3 hsome.1.2
        obtain ⟨e4, k4⟩ := evo_of ht h4 hsome.2
        have e1 := sev_sound ht h1
        exact ⟨h, by simp only [aop, e1, e2, e3, e4, S2.den_one, sslice_sound hr k2 k3 k4 h6 hc, same, s0, S1.den_one], hr⟩
      · cases hs
    · cases hs
  case fieldAddr s x f =>
    split at hs
    · rename_i u h1
      obtain ⟨h2, rfl, rfl⟩ := pure1_sel hs
      obtain ⟨w, h3, rfl⟩ := Option.map_eq_some_iff.1 h2
      exact ⟨h, by simp only [aop, sev_sound ht h1, S2.den_one, sfieldAddr_sound h3, same, s0, S1.den_one], hr⟩
    · cases hs
  case field s x f =>
    split at hs
    · rename_i u h1
      obtain ⟨h2, rfl, rfl⟩ := pure1_sel hs
      obtain ⟨w, h3, rfl⟩ := Option.map_eq_some_iff.1 h2
      exact ⟨h, by simp only [aop, sev_sound ht h1, S2.den_one, sfield_sound h3, same], hr⟩
    · cases hs
  case indexAddr ty x i =>
    split at hs
    · rename_i u j h1 h2
      obtain ⟨h3, rfl⟩ := pures_sel hs
      obtain ⟨⟨cs', w⟩, h4, h5⟩ := Option.map_eq_some_iff.1 h3
      simp only [Prod.mk.injEq] at h5
      obtain ⟨rfl, rfl⟩ := h5
      exact ⟨h, by simp only [aop, sev_sound ht h1, sev_sound ht h2, S2.den_one, sindexAddr_sound h4 hc, same, s0, S1.den_one], hr⟩
    · cases hs
  case index ty x i =>
    split at hs
    · rename_i u j h1 h2
      obtain ⟨h3, rfl⟩ := pures_sel hs
      obtain ⟨⟨cs', w⟩, h4, h5⟩ := Option.map_eq_some_iff.1 h3
      simp only [Prod.mk.injEq] at h5
      obtain ⟨rfl, rfl⟩ := h5
      exact ⟨h, by simp only [aop, sev_sound ht h1, sev_sound ht h2, S2.den_one, sindex_sound h4 hc, same, orElse], hr⟩
    · cases hs
  case extract x i =>
    split at hs
    · rename_i l h1
      obtain ⟨h2, rfl, rfl⟩ := pure1_sel hs
      obtain ⟨w, h3, rfl⟩ := Option.map_eq_some_iff.1 h2
      exact ⟨h, by simp [aop, sev_sound ht h1, S2.den, h3, same], hr⟩
    · cases hs
  case makeSlice ty l c =>
    split at hs
    · rename_i _ a _ b h1 h2
      split at hs
      · rename_i cs' u H₁ h3
        simp only [SRes.sel, Option.some.injEq, Prod.mk.injEq] at hs
        obtain ⟨rfl, rfl, rfl⟩ := hs
        obtain ⟨h', h4, h5⟩ := smakeSlice_sound hr h3 hc
        have e1 := sev_sound ht h1
        have e2 := sev_sound ht h2
        simp only [S2.den, S1.den, S0.den, enc] at e1 e2
        exact ⟨h', by simp only [aop, e1, e2]; exact h4, h5⟩
      · cases hs
    · cases hs
  case unOp op ty x =>
    obtain ⟨h1, rfl, rfl⟩ := pure1_sel hs
    exact ⟨h, by simp only [aop, sfall_sound hE ht h1, same], hr⟩
  case convert src dst x =>
    obtain ⟨h1, rfl, rfl⟩ := pure1_sel hs
    exact ⟨h, by simp only [aop, sfall_sound hE ht h1, same], hr⟩
  case call c =>
    obtain ⟨callee, args, argTypes⟩ := c
    cases callee <;> simp only at hs <;> try (cases hs; done)
    rename_i b
    split at hs
    · rename_i vs h1
      simp only [aop, sevs_sound ht h1]
      have fin : ∀ {h' : AH}, abuiltin E h b argTypes.toList (vs.map (S2.den g)) = some (v.den g, h') → SR g H' h' →
          ∃ h', orElse (abuiltin E h b argTypes.toList (vs.map (S2.den g))) (fun _ => same h (afall E t ⟨dst, .call ⟨.builtin b, args, argTypes⟩, type, pos, after, guard⟩)) = some (v.den g, h') ∧ SR g H' h' := fun h2 h3 =>
        ⟨_, by rw [h2]; rfl, h3⟩
      unfold sbuiltin at hs
      split at hs
      · rename_i ty tys b' es i n c l e1
        split at hs
        · rename_i e hu
          simp only [SRes.sel, Option.some.injEq, Prod.mk.injEq] at hs
          obtain ⟨rfl, rfl, rfl⟩ := hs
          have hn := Sg.B_le (hc (xle (.i 0) n) (by simp))
          simp only [Sg.I_i] at hn
          refine fin ?_ hr
          rw [e1]
          simp only [abuiltin, List.map_cons, S2.den, S1.den, S0.den, hu, s0, enc, Option.some.injEq, Prod.mk.injEq, Value.int.injEq, true_and, and_true]
          show ((g.N n : Nat) : Int) = g.I n
          rw [Sg.I_toNat]; omega
        · cases hs
      · rename_i ty tys l e1
        split at hs
        · rename_i e hu
          simp only [SRes.sel, Option.some.injEq, Prod.mk.injEq] at hs
          obtain ⟨rfl, rfl, rfl⟩ := hs
          refine fin ?_ hr
          rw [e1]
          simp only [abuiltin, List.map_cons, S2.den, S1.den, S0.den, Cst.val, hu, s0, enc]
          rfl
        · cases hs
      · rename_i k x r
        obtain ⟨h2, rfl, rfl⟩ := pure1_sel hs
        obtain ⟨m, h3, rfl⟩ := Option.map_eq_some_iff.1 h2
        have := smin_den (g := g) h3
        simp only [Bool.false_eq_true, if_false] at this
        refine fin ?_ hr
        simp only [abuiltin, List.map_cons, S2.den, S1.den, S0.den, enc, s0]
        have e : (g.d x).toI = g.I x := rfl
        rw [e, this]; rfl
      · rename_i k x r
        obtain ⟨h2, rfl, rfl⟩ := pure1_sel hs
        obtain ⟨m, h3, rfl⟩ := Option.map_eq_some_iff.1 h2
        have := smin_den (g := g) h3
        simp only [if_true] at this
        refine fin ?_ hr
        simp only [abuiltin, List.map_cons, S2.den, S1.den, S0.den, enc, s0]
        have e : (g.d x).toI = g.I x := rfl
        rw [e, this]; rfl
      · rename_i sT xT s x e1
        obtain ⟨h', h2, h3⟩ := sappend_sound hr hs hc
        refine fin ?_ h3
        rw [e1]
        simp only [abuiltin, List.map_cons, List.map_nil, S2.den, S1.den]
        exact h2
      · cases hs
    · cases hs

end Go.AM
