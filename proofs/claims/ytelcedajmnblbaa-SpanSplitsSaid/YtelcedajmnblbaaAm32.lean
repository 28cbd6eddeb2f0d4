/-
  AM, part 32: a function's contract out of its tree.
-/
import Derived.Test.YtelcedajmnblbaaAm31
set_option linter.unusedVariables false
set_option linter.unusedSimpArgs false
namespace Go.AM

def sin1 (H : SH) : Sh → X → S2 × SH
  | .k kd, x => (s0 (.sc kd x), H)
  | .agg ks, x => (.one (.agg (comps x ks 0)), H)
  | .row ks, x => (s0 (.sl H.n ks.length (.i 0) (xlen x) (xlen x)), H.push (.row x ks false false))
def sins : List Sh → Nat → SH → List S2 × SH
  | [], _, H => ([], H)
  | s :: ss, i, H => let r := sin1 H s (.v i); let q := sins ss (i + 1) r.2; (r.1 :: q.1, q.2)

def SH.empty : SH := ⟨0, 0, fun _ => .dead⟩

theorem sin1_sound {g : Sg} {H : SH} {h : AH} (hr : SR g H h) (s : Sh) (x : X) : (s.cin h (g.d x)).1 = (sin1 H s x).1.den g ∧ SR g (sin1 H s x).2 (s.cin h (g.d x)).2 := by
  cases s with
  | k kd => exact ⟨rfl, hr⟩
  | agg ks =>
    refine ⟨?_, hr⟩
    simp only [Sh.cin, sin1, S2.den, S1.den, comps_den, List.drop_zero]
    rfl
  | row ks =>
    have hn := hr.next 0
    simp only [Nat.add_zero] at hn
    refine ⟨?_, hr.push _⟩
    simp only [Sh.cin, sin1, s0, S2.den, S1.den, S0.den, hn, Sg.I_toNat, Sg.I_i]
    have : g.I (xlen x) = (g.L x).length := by simp only [Sg.I, Sg.d, xlen_den, D.toI_i, Sg.L]
    rw [this]
    simp [Sg.L]

theorem sins_sound {g : Sg} : ∀ (ss : List Sh) (i : Nat) (ds : List D) {H : SH} {h : AH}, SR g H h → (∀ j, j < ss.length → g.ρ (i + j) = (ds[j]?).getD default) →
    (cins ss ds h).1 = (sins ss i H).1.map (S2.den g) ∧ SR g (sins ss i H).2 (cins ss ds h).2
  | [], _, _, H, h, hr, _ => ⟨rfl, hr⟩
  | s :: ss, i, ds, H, h, hr, hρ => by
    have e : ds.headD default = g.d (.v i) := by
      have := hρ 0 (by simp)
      simp only [Nat.add_zero] at this
      rw [List.headD_eq_head?_getD, List.head?_eq_getElem?, ← this]
      rfl
    obtain ⟨a1, a2⟩ := sin1_sound hr s (.v i)
    have ih := sins_sound (g := g) ss (i + 1) ds.tail a2 (fun j hj => by
      have := hρ (j + 1) (by simp; omega)
      rw [show i + 1 + j = i + (j + 1) by omega, this, List.getElem?_tail])
    simp only [cins, sins, e]
    exact ⟨by rw [List.map_cons, a1, ih.1], ih.2⟩

/-! ### results -/
def stakes (H : SH) (used : List Nat) : Sh → S2 → Option (List Nat)
  | .row _, .one (.one (.sl b _ _ _ _)) => if b < H.n ∧ (H.b b).wr = true ∧ b ∉ used then some (b :: used) else none
  | .row _, .one (.one (.cst .nilSlice)) => some used
  | .row _, _ => none
  | _, _ => some used

def sdecs (H : SH) : List Nat → List Sh → List S2 → Option (List X × X)
  | _, [], [] => some ([], .nil)
  | used, s :: ss, v :: vs => match scall1 H s v, stakes H used s v with
    | some (c1, x), some used' => match sdecs H used' ss vs with
      | some (c2, r) => some (c1 ++ c2, .cons x r)
      | none => none
    | _, _ => none
  | _, _, _ => none

theorem SB.wr_den {g : Sg} {k : SB} (h : k.wr = true) : (k.den g).wr = true := by
  cases k <;> simp only [SB.wr] at h
  · cases h
  · subst h; rfl
  · subst h; rfl

theorem sdecs_sound {g : Sg} {H : SH} {h : AH} (hr : SR g H h) : ∀ {ss : List Sh} {vs : List S2} {used : List Nat} {cs : List X} {x : X} {rs : List D}, (∀ b ∈ used, b < H.n ∧ (H.b b).wr = true) →
    sdecs H used ss vs = some (cs, x) → (∀ c ∈ cs, g.B c = true) → g.L x = norms ss rs → OutOk h (used.map g.σ) ss (vs.map (S2.den g)) rs
  | [], [], used, cs, x, rs, hu, hs, hc, he => trivial
  | s :: ss, v :: vs, used, cs, x, rs, hu, hs, hc, he => by
    simp only [sdecs] at hs
    split at hs
    · rename_i c1 y used' h1 h2
      split at hs
      · rename_i c2 r h3
        simp only [Option.some.injEq, Prod.mk.injEq] at hs
        obtain ⟨rfl, rfl⟩ := hs
        have e1 := scall1_sound hr h1 (fun c hm => hc c (List.mem_append_left _ hm))
        have hL : g.L (.cons y r) = g.d y :: g.L r := rfl
        rw [hL] at he
        simp only [norms, List.cons.injEq] at he
        have tk : ∃ u', takes h (used.map g.σ) s (v.den g) = some u' ∧ u' = used'.map g.σ ∧ ∀ b ∈ used', b < H.n ∧ (H.b b).wr = true := by
          unfold stakes at h2
          split at h2
          · rename_i ks b es i n c
            split at h2
            · rename_i hb
              obtain ⟨hb, hw, hnu⟩ := hb
              obtain rfl := Option.some.inj h2
              obtain ⟨hk, _⟩ := hr.blk b hb (SB.wr_live hw)
              refine ⟨_, ?_, rfl, fun b' hm => ?_⟩
              · simp only [takes, S2.den, S1.den, S0.den, hk, SB.wr_den hw, true_and, List.map_cons]
                rw [if_pos]
                intro hm
                obtain ⟨b', hb', e⟩ := List.mem_map.1 hm
                obtain ⟨q1, q2⟩ := hu b' hb'
                exact hr.inj b' b q1 hb q2 (SB.wr_live hw) (fun e' => hnu (e' ▸ hb')) e
              · rcases List.mem_cons.1 hm with rfl | hm
                · exact ⟨hb, hw⟩
                · exact hu b' hm
            · cases h2
          · obtain rfl := Option.some.inj h2
            exact ⟨_, rfl, rfl, hu⟩
          · cases h2
          · rename_i hn1 hn2 hn3
            obtain rfl := Option.some.inj h2
            refine ⟨_, ?_, rfl, hu⟩
            cases s with
            | row ks => exact (hn1 ks rfl).elim
            | k kd => rfl
            | agg ks => rfl
        obtain ⟨u', t1, rfl, t3⟩ := tk
        refine ⟨by rw [e1, he.1], _, t1, ?_⟩
        exact sdecs_sound hr t3 h3 (fun c hm => hc c (List.mem_append_right _ hm)) he.2
      · cases hs
    · cases hs
  | [], _ :: _, _, _, _, _, _, hs, _, _ => by cases hs
  | _ :: _, [], _, _, _, _, _, hs, _, _ => by cases hs

def untup (n : Nat) (v : S2) : List S2 :=
  if n = 1 then [v] else match v with
  | .tup l => l.map .one
  | v => [v]

theorem untup_den {g : Sg} {n : Nat} {v : S2} {ss : List Sh} {cs : List X} {x : X} {H : SH} {used : List Nat} (hn : ss.length = n) (hs : sdecs H used ss (untup n v) = some (cs, x)) : v.den g = tup1 ((untup n v).map (S2.den g)) := by
  unfold untup at hs ⊢
  split
  · rfl
  · rename_i hne
    rw [if_neg hne] at hs
    cases v with
    | one s =>
      exfalso
      match ss with
      | [] => cases hs
      | [_] => exact hne hn.symm
      | _ :: _ :: _ =>
        simp only [sdecs] at hs
        split at hs <;> cases hs
    | unk d n =>
      exfalso
      match ss with
      | [] => cases hs
      | [_] => exact hne hn.symm
      | _ :: _ :: _ =>
        simp only [sdecs] at hs
        split at hs <;> cases hs
    | tup l =>
      have hlen : l.length ≠ 1 := by
        intro hl
        match l, hl with
        | [w], _ =>
          match ss with
          | [] => cases hs
          | [_] => exact hne hn.symm
          | _ :: _ :: _ =>
            simp only [List.map_cons, List.map_nil, sdecs] at hs
            split at hs <;> cases hs
      have e : (List.map S2.one l).map (S2.den g) = l.map (S1.den g) := by simp [S2.den]
      simp only [e, S2.den]
      match l with
      | [] => rfl
      | [w] => simp at hlen
      | w :: w' :: r => rfl

def fin (S : SE) (fn : Func) (c : Con) : KX := fun e τ H pc =>
  match e with
  | .normal | .ret => match sresults S.E fn τ H with
    | some (cs, v) => match sdecs H [] c.outs (untup c.outs.length v) with
      | some (cs', x) => musts (cs ++ cs') pc fun _ => .ret x
      | none => .stuck 20
    | none => .stuck 21
  | _ => .stuck 22

/-- the tree of a function without cuts -/
def treeOf (S : SE) (n : Nat) (fn : Func) (body : Code) (c : Con) : Tree :=
  let a := sins c.ins 0 SH.empty
  sexec S n (Nof fn c.ins.length) body (TS.init a.1) a.2 [] (fin S fn c)

theorem fin_sound {S : SE} {fn : Func} {c : Con} {x : VCtx} {m : Lm} {g : Sg} (hx : x.C = g.C) {ds : List D} (hR : ∀ d, x.R d → d.toL = norms c.outs (c.f ds)) {e : Exit} {τ : TS} {H : SH} {pc : PC} {t : T} {h : AH}
    (hs : Sim g τ H pc t h) (hv : VC x m g.ρ (fin S fn c e τ H pc)) : (e = .normal ∨ e = .ret) ∧ ∃ v, aresults S.E fn t h = some v ∧ ∃ us, v = tup1 us ∧ OutOk h [] c.outs us (c.f ds) := by
  have key : VC x m g.ρ (match sresults S.E fn τ H with
    | some (cs, v) => match sdecs H [] c.outs (untup c.outs.length v) with
      | some (cs', y) => musts (cs ++ cs') pc fun _ => .ret y
      | none => .stuck 20
    | none => .stuck 21) → ∃ v, aresults S.E fn t h = some v ∧ ∃ us, v = tup1 us ∧ OutOk h [] c.outs us (c.f ds) := by
    intro hv
    split at hv
    · rename_i cs v h1
      split at hv
      · rename_i cs' y h2
        obtain ⟨q1, pc', q2, q3⟩ := musts_sound hx hs.pc hv
        have e1 := sresults_sound hs.t hs.h h1 (fun c hm => q1 c (List.mem_append_left _ hm))
        have e2 := hR _ q3
        have e3 : g.L y = norms c.outs (c.f ds) := by rw [hx] at e2; exact e2
        exact ⟨_, e1, _, untup_den rfl h2, sdecs_sound hs.h (fun b hm => by cases hm) h2 (fun c hm => q1 c (List.mem_append_right _ hm)) e3⟩
      · exact hv.elim
    · exact hv.elim
  cases e with
  | normal => exact ⟨.inl rfl, key hv⟩
  | ret => exact ⟨.inr rfl, key hv⟩
  | _ => exact hv.elim

theorem SR.empty (g : Sg) (hσ : ∀ b, g.σ b = b) : SR g SH.empty AH.empty :=
  ⟨fun k => by rw [hσ]; rfl, fun b hb => absurd hb (Nat.not_lt_zero _), fun a b ha => absurd ha (Nat.not_lt_zero _), fun b _ => Nat.zero_le _⟩

def ρof (ds : List D) : Nat → D := fun i => (ds[i]?).getD default

theorem Canon.of_tree {S : SE} (hS : S.Ok) {g : FuncId} {fn : Func} {body : Code} {c : Con} (hf : S.E.P.funcs[g]? = some fn) (hb : fn.body = some body) (n : Nat)
    (hv : ∀ ds, c.ok ds = true → norms c.ins ds = ds → VC { C := S.con, J := fun _ _ => False, ms := fun _ _ => 0, R := fun d => d.toL = norms c.outs (c.f ds) } (fun _ => (0, fun _ => default)) (ρof ds) (treeOf S n fn body c)) :
    Canon S.E.P g c := by
  intro ds hpre hnorm
  have h1 := hv ds hpre hnorm
  let sg : Sg := ⟨S.con, ρof ds, fun _ _ => undef, id⟩
  obtain ⟨a1, a2⟩ := sins_sound (g := sg) c.ins 0 ds (SR.empty sg fun _ => rfl) (fun j _ => by simp [sg, ρof])
  have hlen : (cins c.ins ds AH.empty).1.length = c.ins.length := by
    have : ∀ (ss : List Sh) (ds : List D) (h : AH), (cins ss ds h).1.length = ss.length := fun ss => by
      induction ss with
      | nil => intro _ _; rfl
      | cons s ss ih => intro ds h; simp [cins, ih]
    exact this _ _ _
  refine ACalls.of_body hS.fine.ok hf hb ?_
  refine aexec_sound hS.fine n _ _ _ _ _ ?_
  obtain ⟨e, t', h', τ', H', pc', q1, q2, q3⟩ := sexec_sound (x := { C := S.con, J := fun _ _ => False, ms := fun _ _ => 0, R := fun d => d.toL = norms c.outs (c.f ds) }) (m := fun _ => (0, fun _ => default)) (g := sg) hS rfl rfl n _ _ _ _ _ _ _ _
    ⟨TS.init_rel _, a2, fun p hp => by cases hp⟩ h1
  rw [hlen, a1]
  rw [q1]
  obtain ⟨he, v, r1, us, r2, r3⟩ := fin_sound (S := S) (fn := fn) (c := c) (ds := ds) rfl (fun d hd => hd) q2 q3
  rcases he with rfl | rfl
  · exact ⟨v, r1, us, r2, r3⟩
  · exact ⟨v, r1, us, r2, r3⟩

end Go.AM
