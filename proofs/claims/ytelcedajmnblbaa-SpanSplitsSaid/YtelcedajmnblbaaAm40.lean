/-
  AM, part 40: code with loops, symbolically: loops by forms at their heads; functions without contracts are walked in line, their loops too.
-/
import Derived.Test.YtelcedajmnblbaaAm39
set_option linter.unusedVariables false
set_option linter.unusedSimpArgs false
namespace Go.AM

def firstRegion : Code → Option Nat
  | .region id _ _ => some id
  | .seq a b | .cond _ a b => match firstRegion a with
    | some i => some i
    | none => firstRegion b
  | .block _ c | .loop c | .scope c => firstRegion c
  | _ => none

def writes : Code → List Nat
  | .region _ ops _ => ops.toList.filterMap (·.dst)
  | .seq a b | .cond _ a b => writes a ++ writes b
  | .block _ c | .loop c | .scope c => writes c
  | _ => []

/-- a form as it is written down: letters from 0 on; blocks by the temporaries that point there -/
structure CutS where
  cnt : Nat
  slots : List (Nat × Slot) := []
  rows : List (Nat × Nat) := []
  cells : List (Nat × List Slot) := []
  dead : List Nat := []
  news : List NRow := []

def Slot.at (d : Nat) : Slot → Slot
  | .var k n => .var k (d + n)
  | .agg ks n => .agg ks (d + n)
  | s => s
def blkOf (τ : TS) (i : Nat) : Nat :=
  match τ i with
  | .one (.one (.ptr b _ _ _)) => b
  | .one (.one (.sl b _ _ _ _)) => b
  | _ => 0
def CutS.at (cu : CutS) (d : Nat) (τ : TS) : Cut :=
  { key := d, lo := d, cnt := cu.cnt, slots := cu.slots.map fun p => (p.1, p.2.at d), rows := cu.rows.map fun p => (blkOf τ p.1, d + p.2),
    cells := cu.cells.map fun p => (blkOf τ p.1, p.2.map (Slot.at d)), dead := cu.dead.map (blkOf τ), news := cu.news.map fun r => { r with n := d + r.n } }

abbrev Cuts := FuncId → Nat → Option CutS
/-- the way on: with the next letter -/
abbrev KC := Exit → TS → SH → PC → Nat → Tree
abbrev CRec := FuncId → Nat → Code → TS → SH → PC → Nat → KC → Tree

def S2.known : S2 → Bool
  | .unk _ _ => false
  | _ => true

/-- the caller's temporaries behind a call whose loops took letters -/
def reframe (N fl nb d : Nat) (τ : TS) : TS := fun i => if i < N then (if (τ i).upto fl nb then τ i else .unk d i) else .unk d i

def cstep (S : SE) (r : CRec) (N : Nat) (o : Oper) (τ : TS) (H : SH) (pc : PC) (fl : Nat) (k : TS → S2 → SH → PC → Nat → Tree) : Tree :=
  match o.op with
  | .call { callee := .value f, args, argTypes := _ } =>
    match sev τ f, sevs τ args.toList with
    | some (.one (.clo g first cap)), some as =>
      match S.con g with
      | some c => sresult (scall c H g (first.map s0 ++ as ++ cap.map s0)) pc fun v H' pc' => k τ v H' pc' fl
      | none =>
        if S.own g then
          match S.E.func g with
          | some fn => match fn.body with
            | some body => r g (Nof fn (first.map s0 ++ as ++ cap.map s0).length) body (TS.init (first.map s0 ++ as ++ cap.map s0)) H pc fl fun e τ' H' pc' fl' =>
              match e with
              | .normal | .ret => match sresults S.E fn τ' H' with
                | some (cs, v) => musts cs pc' fun pc'' => if Nat.beq fl' fl then k τ v H' pc'' fl' else if v.known then k (reframe N fl H.n fl' τ) v H' pc'' (fl' + 1) else .stuck 34
                | none => .stuck 3
              | _ => .stuck 4
            | none => .stuck 5
          | none => .stuck 6
        else .stuck 7
    | _, _ => .stuck 8
  | _ => sresult (sop S.E τ H o) pc fun v H' pc' => k τ v H' pc' fl

def csops (S : SE) (r : CRec) (N : Nat) (ops : List Oper) : List Oper → TS → SH → PC → Nat → (TS → SH → PC → Nat → Tree) → Tree
  | [], τ, H, pc, fl, k => k τ H pc fl
  | o :: os, τ, H, pc, fl, k =>
    let go := fun (τ : TS) (pc : PC) => cstep S r N o τ H pc fl fun τ v H' pc' fl' => csops S r N ops os (τ.put N o.dst v) H' pc' fl' k
    let past := fun (τ : TS) (pc : PC) => csops S r N ops os (τ.put N o.dst (s0 (.cst .undef))) H pc fl k
    match sguard ops τ o with
    | .yes => go τ pc
    | .no => past τ pc
    | .bad => .stuck 9
    | .ask d x want => sbranch x pc (fun pc => if want then go (τ.upd d (lit true)) pc else past (τ.upd d (lit true)) pc) (fun pc => if want then past (τ.upd d (lit false)) pc else go (τ.upd d (lit false)) pc)

def cloop (r : CRec) (f N : Nat) (c : Code) : Nat → TS → SH → PC → Nat → KC → Tree
  | 0, _, _, _, _, _ => .stuck 12
  | n + 1, τ, H, pc, fl, k => r f N c τ H pc fl fun e τ' H' pc' fl' =>
    match e with
    | .normal => cloop r f N c n τ' H' pc' fl' k
    | e => k e τ' H' pc' fl'

def cscope (r : CRec) (f N : Nat) (c : Code) : Nat → Code → TS → SH → PC → Nat → KC → Tree
  | 0, _, _, _, _, _, _ => .stuck 10
  | n + 1, cur, τ, H, pc, fl, k => r f N cur τ H pc fl fun e τ' H' pc' fl' =>
    match e with
    | .goto l => match findLabel c l with
      | some rest => cscope r f N c n rest τ' H' pc' fl' k
      | none => .stuck 11
    | e => k e τ' H' pc' fl'

/-- the end of a round -/
def cagain (cu : Cut) (W : List Nat) (N : Nat) (st : TS × SH) (k : KC) : KC := fun e τ' H' pc' fl' =>
  match e with
  | .normal =>
    let st' := ghostAll cu (τ', H')
    match instOf cu W N st.1 st.2 st'.1 st'.2 with
    | some r => musts r.1 pc' fun _ => .again cu.key cu.lo cu.cnt r.2.1
    | none => .stuck 32
  | e => k e τ' H' pc' fl'

/-- the blocks that become the form's rows are no blocks of their own any more -/
def Cut.kill (cu : Cut) (st : TS × SH) : Cut :=
  { cu with dead := cu.dead ++ (cu.slots.filterMap fun p => match p.2 with | .row _ => some (blkOf st.1 p.1) | _ => none) ++
      cu.cells.flatMap fun p => match st.2.b p.1 with
        | .cells l _ _ _ => (l.zip p.2).filterMap fun q => match q with
          | (.sl b _ _ _ _, .row _) => some b
          | _ => none
        | _ => [] }

def ccut (r : CRec) (f N : Nat) (c : Code) (cs : CutS) (τ : TS) (H : SH) (pc : PC) (fl : Nat) (k : KC) : Tree :=
  let W := writes c
  let st := ghostAll (cs.at fl τ) (τ, H)
  let cu := (cs.at fl τ).kill st
  match instOf cu W N st.1 st.2 st.1 st.2 with
  | none => .stuck 31
  | some i => musts i.1 pc fun pc' => .loop cu.key cu.lo cu.cnt i.2.1
      (r f N c (patT cu W N st.2.n st.1) (patH cu st.2) (pc'.filter fun p => p.1.upto cu.lo) (cu.lo + cu.cnt + 1) (cagain cu W N st k))

def cexec (S : SE) (cuts : Cuts) : Nat → CRec
  | 0 => fun _ _ _ _ _ _ _ _ => .stuck 16
  | n + 1 => fun f N c τ H pc fl k =>
    match c with
    | .region _ ops false => csops S (cexec S cuts n) N ops.toList ops.toList τ H pc fl fun τ H pc fl => k .normal τ H pc fl
    | .seq a b => cexec S cuts n f N a τ H pc fl fun e τ' H' pc' fl' =>
      match e with
      | .normal => cexec S cuts n f N b τ' H' pc' fl' k
      | e => k e τ' H' pc' fl'
    | .cond x a b => match sev τ x with
      | some (.one (.one (.sc .bool y))) => sbranch y pc (fun pc => cexec S cuts n f N a τ H pc fl k) (fun pc => cexec S cuts n f N b τ H pc fl k)
      | _ => .stuck 14
    | .block id c => cexec S cuts n f N c τ H pc fl fun e τ' H' pc' fl' =>
      match e with
      | .exit id' => if id' = id then k .normal τ' H' pc' fl' else k (.exit id') τ' H' pc' fl'
      | e => k e τ' H' pc' fl'
    | .loop c => match (firstRegion c).bind (cuts f) with
      | some cu => ccut (cexec S cuts n) f N c cu τ H pc fl k
      | none => cloop (cexec S cuts n) f N c n τ H pc fl k
    | .scope c => cscope (cexec S cuts n) f N c n c τ H pc fl k
    | c => sexec S (n + 1) N c τ H pc fun e τ' H' pc' => k e τ' H' pc' fl

/-! ### operations one behind the other -/
def OWP (P : Program) (N : Nat) (ops : Array Oper) (os : List Oper) (t : T) (h : AH) (Q : T → AH → Prop) : Prop :=
  ∀ (Qx : Exit → Act → World → Prop) (ι : Inj) (a : Act) (w : World), TRel ι N t a → HRel ι h w →
    (∀ t' h' a' w' ι', Q t' h' → TRel ι' N t' a' → HRel ι' h' w' → Ext ι h w ι' h' w' → Qx .normal a' w') → wpList P ops Qx os a w

theorem OWP.nil {P : Program} {N : Nat} {ops : Array Oper} {t : T} {h : AH} {Q : T → AH → Prop} (hq : Q t h) : OWP P N ops [] t h Q :=
  fun _ ι a w hT hH hx => hx t h a w ι hq hT hH (Ext.refl ι h w)

theorem OWP.skip {P : Program} {N : Nat} {ops : Array Oper} {o : Oper} {os : List Oper} {t : T} {h : AH} {Q : T → AH → Prop} (hw : wantedA ops.toList t o = false) (hr : OWP P N ops os (t.put N o.dst undef) h Q) :
    OWP P N ops (o :: os) t h Q := by
  intro Qx ι a w hT hH hx
  simp only [wpList, wanted_rel hT, hw, Bool.false_eq_true, if_false]
  exact hr Qx ι _ w (hT.put (undef_rel ι) o.dst) hH hx

theorem OWP.step {E : Env} (hE : E.Fine) {r : Rec} (hrec : RecOk E.P r) {N : Nat} {ops : Array Oper} {o : Oper} {os : List Oper} {t : T} {h h' : AH} {v : Value} {Q : T → AH → Prop} (hw : wantedA ops.toList t o = true)
    (hs : astep E r o t h = .ret (v, h')) (hr : OWP E.P N ops os (t.put N o.dst v) h' Q) : OWP E.P N ops (o :: os) t h Q := by
  intro Qx ι a w hT hH hx
  simp only [wpList, wanted_rel hT, hw, if_true]
  refine .inl (step_sound hE hrec hT hH rfl (Q := fun y => y = (v, h')) (by rw [hs]; exact rfl) ?_)
  rintro v₁ h₁ v' w' ι' e hrel hH' he
  obtain ⟨rfl, rfl⟩ := Prod.mk.inj e
  exact hr Qx ι' _ w' ((hT.mono he.le).put hrel o.dst) hH' fun t'' h'' a'' w'' ι'' q hT'' hH'' he'' => hx t'' h'' a'' w'' ι'' q hT'' hH'' (he.trans hH hH' he'')

theorem OWP.call {P : Program} {N : Nat} {ops : Array Oper} {o : Oper} {os : List Oper} {t : T} {h : AH} {Q : T → AH → Prop} (hw : wantedA ops.toList t o = true) {f : Operand} {args : Array Operand} {tys : Array TypeId}
    (hop : o.op = .call ⟨.value f, args, tys⟩) {g : FuncId} {first captured : Array Value} {as : List Value} (hf : ev t f = some (.func (.func g) first captured)) (hargs : evs t args.toList = some as) (hent : Entered P g)
    (hcalls : ACalls P g (first.toList ++ as ++ captured.toList) h (fun v h' => OWP P N ops os (t.put N o.dst v) h' Q)) : OWP P N ops (o :: os) t h Q := by
  intro Qx ι a w hT hH hx
  simp only [wpList, wanted_rel hT, hw, if_true]
  refine .inl ?_
  have hfv := ev_sound hT hf
  have hav := evs_sound hT hargs
  cases hff : a.eval f <;> rw [hff] at hfv <;> try (cases hfv; done)
  rename_i fn f' c'
  cases hfv with
  | func _ h1 h1' h2 h2' =>
    have hrun : (execOp a.eval o).run P w = .ok (.enter g (f' ++ args.map a.eval ++ c')) w := by
      obtain ⟨dst, op, type, pos, after, guard⟩ := o
      simp only at hop
      subst hop
      simp only [execOp, resolve, hff, Deferred.ofValue, pure_bind, invoke]
      exact callFunc_run hent _ w
    unfold Oper.wp
    rw [hrun]
    have hl : LRel ι (first.toList ++ as ++ captured.toList) (f' ++ args.map a.eval ++ c').toList := by
      have l1 : LRel ι first.toList f'.toList := ⟨by simpa using h1, fun i x x' p q => h1' i x x' (by simpa using p) (by simpa using q)⟩
      have l2 : LRel ι captured.toList c'.toList := ⟨by simpa using h2, fun i x x' p q => h2' i x x' (by simpa using p) (by simpa using q)⟩
      have := (l1.append hav).append l2
      simpa using this
    refine Calls.mono (hcalls ι _ w hl hH) ?_
    rintro e w' ⟨v, h', v', ι', q, rfl, hrel, hH', he⟩
    exact q Qx ι' _ w' ((hT.mono he.le).put hrel o.dst) hH' fun t'' h'' a'' w'' ι'' q hT'' hH'' he'' => hx t'' h'' a'' w'' ι'' q hT'' hH'' (he.trans hH hH' he'')

theorem OWP.region {P : Program} {N id : Nat} {ops : Array Oper} {t : T} {h : AH} {Q : Exit → T → AH → Prop} (ho : OWP P N ops ops.toList t h (fun t' h' => Q .normal t' h')) : AWP P N (.region id ops false) t h Q := by
  intro ι a w hT hH
  refine wp_region_list (ho _ ι a w hT hH ?_)
  intro t' h' a' w' ι' q hT' hH' he
  exact ⟨t', h', ι', q, hT', hH', he⟩

/-! ### soundness -/
section
variable {S : SE} {x : VCtx}

/-- what is kept on the way -/
structure Kp (S : SE) (fl nb : Nat) (m : Lm) (g : Sg) (fl' nb' : Nat) (m' : Lm) (g' : Sg) : Prop where
  hC : g'.C = S.con
  hρ : ∀ i, i < fl → g'.ρ i = g.ρ i
  hu : ∀ d, d < fl → g'.u d = g.u d
  hσ : ∀ b, b < nb → g'.σ b = g.σ b
  hm : ∀ a, a < fl → m' a = m a
  hfl : fl ≤ fl'
  hnb : nb ≤ nb'
  same : fl' = fl → g' = g ∧ m' = m

theorem Kp.refl {fl nb nb' : Nat} {m : Lm} {g : Sg} (hg : g.C = S.con) (hnb : nb ≤ nb') : Kp S fl nb m g fl nb' m g :=
  ⟨hg, fun _ _ => rfl, fun _ _ => rfl, fun _ _ => rfl, fun _ _ => rfl, Nat.le_refl _, hnb, fun _ => ⟨rfl, rfl⟩⟩
theorem Kp.trans {fl fl' fl'' nb nb' nb'' : Nat} {m m' m'' : Lm} {g g' g'' : Sg} (a : Kp S fl nb m g fl' nb' m' g') (b : Kp S fl' nb' m' g' fl'' nb'' m'' g'') : Kp S fl nb m g fl'' nb'' m'' g'' :=
  ⟨b.hC, fun i hi => (b.hρ i (Nat.lt_of_lt_of_le hi a.hfl)).trans (a.hρ i hi), fun i hi => (b.hu i (Nat.lt_of_lt_of_le hi a.hfl)).trans (a.hu i hi), fun i hi => (b.hσ i (Nat.lt_of_lt_of_le hi a.hnb)).trans (a.hσ i hi),
    fun k hk => (b.hm k (Nat.lt_of_lt_of_le hk a.hfl)).trans (a.hm k hk), Nat.le_trans a.hfl b.hfl, Nat.le_trans a.hnb b.hnb, fun e => by
      have h1 := a.hfl
      have h2 := b.hfl
      obtain ⟨rfl, rfl⟩ := b.same (by omega)
      exact a.same (by omega)⟩

def CSound (S : SE) (x : VCtx) (r : CRec) : Prop :=
  ∀ f N c τ H pc fl (k : KC) t h g m (Q : Exit → T → AH → Prop), g.C = S.con → Sim g τ H pc t h → VC x m g.ρ (r f N c τ H pc fl k) →
    (∀ e τ' H' pc' fl' t' h' g' m', Kp S fl H.n m g fl' H'.n m' g' → Sim g' τ' H' pc' t' h' → VC x m' g'.ρ (k e τ' H' pc' fl') → Q e t' h') → AWP S.E.P N c t h Q

theorem n_mono {g : Sg} {H H' : SH} {h h' : AH} (a : SR g H h) (b : SR g H' h') (hn : h.n ≤ h'.n) : H.n ≤ H'.n := by
  refine Nat.le_of_not_lt fun hlt => ?_
  have h1 := a.next 0
  have h2 := b.next (H.n - H'.n)
  rw [show H'.n + (H.n - H'.n) = H.n + 0 by omega, h1] at h2
  omega

theorem SR.setU {g : Sg} {H : SH} {h : AH} (hr : SR g H h) (u : Nat → Nat → Value) : SR { g with u := u } H h := ⟨hr.next, fun b hb hl => by
  have := hr.blk b hb hl
  refine ⟨this.1.trans ?_, this.2⟩
  cases H.b b <;> rfl, hr.inj, hr.lim⟩

theorem reframe_sound {g g' : Sg} {N fl nb d : Nat} (hd : fl ≤ d) {τ : TS} {t : T} (ht : TR g τ t) (ha : Agree fl nb g g') : TR { g' with u := fun e => if e = d then t else g'.u e } (reframe N fl nb d τ) t := by
  intro i
  have drop : t i = (S2.unk d i).den { g' with u := fun e => if e = d then t else g'.u e } := by simp only [S2.den, if_true]
  have ha2 : Agree fl nb g' { g' with u := fun e => if e = d then t else g'.u e } := ⟨rfl, fun _ _ => rfl, fun e he => if_neg (by omega), fun _ _ => rfl⟩
  unfold reframe
  split
  · split
    · rename_i h
      rw [ht i, ← S2.upto_den ha h, ← S2.upto_den ha2 h]
    · exact drop
  · exact drop

theorem cstep_sound (hS : S.Ok) (hx : x.C = S.con) {r : CRec} (hr : CSound S x r) {N : Nat} {ops : Array Oper} {o : Oper} {os : List Oper} {τ : TS} {H : SH} {pc : PC} {fl : Nat} {k : TS → S2 → SH → PC → Nat → Tree} {t : T} {h : AH} {g : Sg} {m : Lm}
    {Q : T → AH → Prop} (hw : wantedA ops.toList t o = true) (hg : g.C = S.con) (hs : Sim g τ H pc t h) (hv : VC x m g.ρ (cstep S r N o τ H pc fl k))
    (hk : ∀ τ' v H' pc' fl' h' g' m', Kp S fl H.n m g fl' H'.n m' g' → TR g' τ' t → SR g' H' h' → PcOk g' pc' → VC x m' g'.ρ (k τ' v H' pc' fl') → OWP S.E.P N ops os (t.put N o.dst (v.den g')) h' Q) :
    OWP S.E.P N ops (o :: os) t h Q := by
  have hxg : x.C = g.C := hx.trans hg.symm
  have plain : (∀ f args tys, o.op ≠ .call ⟨.value f, args, tys⟩) → VC x m g.ρ (sresult (sop S.E τ H o) pc fun v H' pc' => k τ v H' pc' fl) → OWP S.E.P N ops (o :: os) t h Q := fun hne hv => by
    obtain ⟨cs, v, H', pc', h1, h2, h3, h4⟩ := sresult_sound hxg hs.pc hv
    obtain ⟨h', h5, h6⟩ := sop_sound hS.fine.ok hs.t hs.h h1 h2
    refine OWP.step hS.fine (r := fun _ _ _ _ => .fail) (fun _ _ _ _ _ hf => hf.elim) hw (v := v.den g) (h' := h') ?_ (hk τ v H' pc' fl h' g m (Kp.refl hg (n_mono hs.h h6 (aop_kept h5).n_le)) hs.t h6 h3 h4)
    unfold astep
    split
    · rename_i f args tys hop
      exact absurd hop (hne f args tys)
    · rw [h5]; rfl
  unfold cstep at hv
  split at hv
  · rename_i f args tys hop
    split at hv
    · rename_i fid first cap as h1 h2
      have e1 := sev_sound hs.t h1
      have e2 := sevs_sound hs.t h2
      simp only [S2.den, S1.den] at e1
      have eargs : (dens g first).toArray.toList ++ as.map (S2.den g) ++ (dens g cap).toArray.toList = (first.map s0 ++ as ++ cap.map s0).map (S2.den g) := by
        simp only [List.map_append, TR.map_s0]
      split at hv
      · rename_i c hc
        obtain ⟨cs, v, H', pc', q1, q2, q3, q4⟩ := sresult_sound hxg hs.pc hv
        obtain ⟨h', q5, q6⟩ := scall_sound hs.h (by rw [hg]; exact hc) q1 q2
        obtain ⟨hent, hspec⟩ := hS.fine.spec fid _ (hS.con fid c hc)
        refine OWP.call hw hop e1 e2 hent ?_
        rw [eargs]
        intro ι args' w hl hH
        refine Calls.mono (hspec _ _ _ _ q5 ι args' w hl hH) ?_
        rintro e w' ⟨v₁, h₁, v', ι', ⟨rfl, rfl⟩, r1, r2⟩
        exact ⟨_, _, v', ι', hk τ v H' pc' fl h₁ g m (Kp.refl hg (n_mono hs.h q6 (specOf_kept q5).n_le)) hs.t q6 q3 q4, r1, r2⟩
      · split at hv
        · rename_i hown
          split at hv
          · rename_i fn hf
            split at hv
            · rename_i body hb
              have hent : Entered S.E.P fid := ⟨fn, hS.fine.ok.func fid fn hf, hS.fine.name fid fn hf, by rw [hb]; rfl⟩
              refine OWP.call hw hop e1 e2 hent ?_
              rw [eargs]
              refine ACalls.of_body hS.fine.ok (hS.fine.ok.func fid fn hf) hb ?_
              rw [List.length_map]
              refine hr _ _ _ _ _ _ _ _ _ _ _ _ _ hg ⟨TS.init_rel _, hs.h, hs.pc⟩ hv fun e τ' H' pc' fl' t' h' g' m' k₂ s₂ v₂ => ?_
              have fin : VC x m' g'.ρ (match sresults S.E fn τ' H' with
                  | some (cs, v) => musts cs pc' fun pc'' => if Nat.beq fl' fl then k τ v H' pc'' fl' else if v.known then k (reframe N fl H.n fl' τ) v H' pc'' (fl' + 1) else .stuck 34
                  | none => .stuck 3) → ∃ v, aresults S.E fn t' h' = some v ∧ OWP S.E.P N ops os (t.put N o.dst v) h' Q := by
                intro hv
                split at hv
                · rename_i cs v hres
                  obtain ⟨c1, pc'', c2, c3⟩ := musts_sound (hx.trans k₂.hC.symm) s₂.pc hv
                  have hres' := sresults_sound s₂.t s₂.h hres c1
                  split at c3
                  · rename_i hfl
                    obtain ⟨rfl, rfl⟩ := k₂.same (nbeq hfl)
                    exact ⟨_, hres', hk τ v H' pc'' fl' h' g' m' k₂ hs.t s₂.h c2 c3⟩
                  · split at c3
                    case isFalse => exact c3.elim
                    rename_i hfl hkn
                    have hne : fl' ≠ fl := fun e => hfl (by rw [e]; exact Nat.beq_refl fl)
                    have hle := k₂.hfl
                    let g₂ : Sg := { g' with u := fun e => if e = fl' then t else g'.u e }
                    have kp : Kp S fl H.n m g (fl' + 1) H'.n m' g₂ := ⟨k₂.hC, k₂.hρ, fun d hd => by
                      show (if d = fl' then t else g'.u d) = _
                      rw [if_neg (by omega)]
                      exact k₂.hu d hd, k₂.hσ, k₂.hm, by omega, k₂.hnb, fun e => by omega⟩
                    have hvd : v.den g₂ = v.den g' := by
                      cases v with
                      | unk _ _ => cases hkn
                      | one s => rfl
                      | tup l => rfl
                    have := hk (reframe N fl H.n fl' τ) v H' pc'' (fl' + 1) h' g₂ m' kp (reframe_sound hle hs.t ⟨k₂.hC.trans hg.symm, k₂.hρ, k₂.hu, k₂.hσ⟩) (s₂.h.setU _) (fun p hp => c2 p hp) c3
                    rw [hvd] at this
                    exact ⟨_, hres', this⟩
                · exact hv.elim
              cases e with
              | normal => exact fin v₂
              | ret => exact fin v₂
              | _ => exact v₂.elim
            · exact hv.elim
          · exact hv.elim
        · exact hv.elim
    · exact hv.elim
  · rename_i hne
    exact plain hne hv

theorem csops_sound (hS : S.Ok) (hx : x.C = S.con) {r : CRec} (hr : CSound S x r) {N : Nat} {ops : Array Oper} {Q : T → AH → Prop} : ∀ (os : List Oper) {τ : TS} {H : SH} {pc : PC} {fl : Nat} {k : TS → SH → PC → Nat → Tree} {t : T} {h : AH} {g : Sg} {m : Lm},
    g.C = S.con → Sim g τ H pc t h → VC x m g.ρ (csops S r N ops.toList os τ H pc fl k) →
    (∀ τ' H' pc' fl' t' h' g' m', Kp S fl H.n m g fl' H'.n m' g' → Sim g' τ' H' pc' t' h' → VC x m' g'.ρ (k τ' H' pc' fl') → Q t' h') → OWP S.E.P N ops os t h Q
  | [], τ, H, pc, fl, k, t, h, g, m, hg, hs, hv, hk => OWP.nil (hk τ H pc fl t h g m (Kp.refl hg (Nat.le_refl _)) hs hv)
  | o :: os, τ, H, pc, fl, k, t, h, g, m, hg, hs, hv, hk => by
    have go : ∀ {τ : TS} {pc : PC}, Sim g τ H pc t h → wantedA ops.toList t o = true → VC x m g.ρ (cstep S r N o τ H pc fl fun τ v H' pc' fl' => csops S r N ops.toList os (τ.put N o.dst v) H' pc' fl' k) →
        OWP S.E.P N ops (o :: os) t h Q := by
      intro τ pc hs hw hv
      refine cstep_sound hS hx hr hw hg hs hv fun τ' v H' pc' fl' h' g' m' kp ht' hr' hp' hv' => ?_
      exact csops_sound hS hx hr os kp.hC ⟨ht'.put N o.dst v, hr', hp'⟩ hv' fun τ₂ H₂ pc₂ fl₂ t₂ h₂ g₂ m₂ kp₂ hs₂ hv₂ => hk τ₂ H₂ pc₂ fl₂ t₂ h₂ g₂ m₂ (kp.trans kp₂) hs₂ hv₂
    have past : ∀ {τ : TS} {pc : PC}, Sim g τ H pc t h → wantedA ops.toList t o = false → VC x m g.ρ (csops S r N ops.toList os (τ.put N o.dst (s0 (.cst .undef))) H pc fl k) → OWP S.E.P N ops (o :: os) t h Q := by
      intro τ pc hs hw hv
      exact OWP.skip hw (csops_sound hS hx hr os hg ⟨hs.t.put N o.dst (s0 (.cst .undef)), hs.h, hs.pc⟩ hv hk)
    have hgd := sguard_sound (g := g) (ops := ops.toList) hs.t (o := o)
    simp only [csops] at hv
    split at hv
    · rename_i e; rw [e] at hgd; exact go hs hgd hv
    · rename_i e; rw [e] at hgd; exact past hs hgd hv
    · exact hv.elim
    · rename_i d y want e
      rw [e] at hgd
      obtain ⟨hd, hw⟩ := hgd
      obtain ⟨pc', hp', h1⟩ := sbranch_sound (hx.trans hg.symm) hs.pc hv
      rcases h1 with ⟨h1, h2⟩ | ⟨h1, h2⟩
      · have hs' : Sim g (τ.upd d (lit true)) H pc' t h := ⟨hs.t.upd_lit hd h1, hs.h, hp'⟩
        rw [h1] at hw
        cases want with
        | true => exact go hs' hw h2
        | false => exact past hs' hw h2
      · have hs' : Sim g (τ.upd d (lit false)) H pc' t h := ⟨hs.t.upd_lit hd h1, hs.h, hp'⟩
        rw [h1] at hw
        cases want with
        | true => exact past hs' hw h2
        | false => exact go hs' hw h2

theorem cloop_sound {r : CRec} (hr : CSound S x r) (f N : Nat) (c : Code) (n : Nat) : ∀ τ H pc fl (k : KC) t h g m (Q : Exit → T → AH → Prop), g.C = S.con → Sim g τ H pc t h → VC x m g.ρ (cloop r f N c n τ H pc fl k) →
    (∀ e τ' H' pc' fl' t' h' g' m', Kp S fl H.n m g fl' H'.n m' g' → Sim g' τ' H' pc' t' h' → VC x m' g'.ρ (k e τ' H' pc' fl') → Q e t' h') → AWP S.E.P N (.loop c) t h Q := by
  intro τ H pc fl k t h g m Q hg hs hv hk
  refine AWP.loop (fun j t h => ∃ g' m' τ' H' pc' fl', Kp S fl H.n m g fl' H'.n m' g' ∧ Sim g' τ' H' pc' t h ∧ VC x m' g'.ρ (cloop r f N c j τ' H' pc' fl' k)) n ⟨g, m, τ, H, pc, fl, Kp.refl hg (Nat.le_refl _), hs, hv⟩ ?_
  intro j t₁ h₁ ⟨g₁, m₁, τ₁, H₁, pc₁, fl₁, k₁, s₁, v₁⟩
  cases j with
  | zero => exact v₁.elim
  | succ j =>
    refine hr _ _ _ _ _ _ _ _ _ _ _ _ _ k₁.hC s₁ v₁ fun e τ' H' pc' fl' t' h' g' m' k₂ s₂ v₂ => ?_
    cases e with
    | normal => exact ⟨j, Nat.lt_succ_self j, g', m', τ', H', pc', fl', k₁.trans k₂, s₂, v₂⟩
    | _ => exact hk _ _ _ _ _ _ _ _ _ (k₁.trans k₂) s₂ v₂

theorem cscope_sound {r : CRec} (hr : CSound S x r) (f N : Nat) (c : Code) (n : Nat) : ∀ τ H pc fl (k : KC) t h g m (Q : Exit → T → AH → Prop), g.C = S.con → Sim g τ H pc t h → VC x m g.ρ (cscope r f N c n c τ H pc fl k) →
    (∀ e τ' H' pc' fl' t' h' g' m', Kp S fl H.n m g fl' H'.n m' g' → Sim g' τ' H' pc' t' h' → VC x m' g'.ρ (k e τ' H' pc' fl') → Q e t' h') → AWP S.E.P N (.scope c) t h Q := by
  intro τ H pc fl k t h g m Q hg hs hv hk
  refine AWP.scope (fun j cur t h => ∃ g' m' τ' H' pc' fl', Kp S fl H.n m g fl' H'.n m' g' ∧ Sim g' τ' H' pc' t h ∧ VC x m' g'.ρ (cscope r f N c j cur τ' H' pc' fl' k)) n ⟨g, m, τ, H, pc, fl, Kp.refl hg (Nat.le_refl _), hs, hv⟩ ?_
  intro j cur t₁ h₁ ⟨g₁, m₁, τ₁, H₁, pc₁, fl₁, k₁, s₁, v₁⟩
  cases j with
  | zero => exact v₁.elim
  | succ j =>
    refine hr _ _ _ _ _ _ _ _ _ _ _ _ _ k₁.hC s₁ v₁ fun e τ' H' pc' fl' t' h' g' m' k₂ s₂ v₂ => ?_
    cases e with
    | goto l =>
      simp only at v₂
      cases hf : findLabel c l with
      | none => rw [hf] at v₂; exact v₂.elim
      | some rest => rw [hf] at v₂; exact ⟨rest, hf, j, Nat.lt_succ_self j, g', m', τ', H', pc', fl', k₁.trans k₂, s₂, v₂⟩
    | _ => exact hk _ _ _ _ _ _ _ _ _ (k₁.trans k₂) s₂ v₂

theorem ghostAll_n (cu : Cut) (st : TS × SH) : st.2.n ≤ (ghostAll cu st).2.n := by
  have one : ∀ (l : List (Nat × Slot)) (st : TS × SH), st.2.n ≤ (l.foldl (ghost1 cu) st).2.n := by
    intro l
    induction l with
    | nil => intro st; exact Nat.le_refl _
    | cons p l ih =>
      intro st
      refine Nat.le_trans ?_ (ih _)
      unfold ghost1
      split
      · split
        · exact Nat.le_succ _
        · exact Nat.le_refl _
      · exact Nat.le_refl _
  have two : ∀ (b : Nat) (l : List (Nat × Slot)) (H : SH), H.n ≤ (l.foldl (ghostC cu b) H).n := by
    intro b l
    induction l with
    | nil => intro H; exact Nat.le_refl _
    | cons p l ih =>
      intro H
      refine Nat.le_trans ?_ (ih _)
      unfold ghostC
      split
      · split
        · split
          · exact Nat.le_succ _
          · exact Nat.le_refl _
        · exact Nat.le_refl _
      · exact Nat.le_refl _
  have three : ∀ (l : List (Nat × List Slot)) (H : SH), H.n ≤ (l.foldl (fun H p => (numbered 0 p.2).foldl (ghostC cu p.1) H) H).n := by
    intro l
    induction l with
    | nil => intro H; exact Nat.le_refl _
    | cons p l ih => intro H; exact Nat.le_trans (two p.1 _ H) (ih _)
  exact Nat.le_trans (one cu.slots st) (three cu.cells _)

theorem ccut_sound (hx : x.C = S.con) {r : CRec} (hr : CSound S x r) (f N : Nat) (c : Code) (cs : CutS) : ∀ τ H pc fl (k : KC) t h g m (Q : Exit → T → AH → Prop), g.C = S.con → Sim g τ H pc t h → VC x m g.ρ (ccut r f N c cs τ H pc fl k) →
    (∀ e τ' H' pc' fl' t' h' g' m', Kp S fl H.n m g fl' H'.n m' g' → Sim g' τ' H' pc' t' h' → VC x m' g'.ρ (k e τ' H' pc' fl') → Q e t' h') → AWP S.E.P N (.loop c) t h Q := by
  intro τ H pc fl k t h g m Q hg hs hv hk
  unfold ccut at hv
  simp only at hv
  generalize hst : ghostAll (cs.at fl τ) (τ, H) = st at hv
  have hlo : ((cs.at fl τ).kill st).lo = fl := rfl
  have hkey : ((cs.at fl τ).kill st).key = fl := rfl
  have hst : ghostAll ((cs.at fl τ).kill st) (τ, H) = st := hst
  generalize (cs.at fl τ).kill st = cu at hv hlo hkey hst
  have hgn := ghostAll_n cu (τ, H)
  rw [hst] at hgn
  obtain ⟨t2, h2, w2, ht2, hr2⟩ := ghostAll_sound (P := S.E.P) (N := N) (cu := cu) (st := (τ, H)) hs.t hs.h
  rw [hst] at ht2 hr2
  split at hv
  · exact hv.elim
  rename_i i hi
  have hxg : x.C = g.C := hx.trans hg.symm
  obtain ⟨hc, pc', hpc, hv⟩ := musts_sound hxg hs.pc hv
  simp only [VC] at hv
  obtain ⟨hJ, hv⟩ := hv
  have sim : ∀ {g₀ : Sg} {r₀ : Inst} {τ' : TS} {H' : SH} {t3 : T} {h3 : AH}, instOf cu (writes c) N st.1 st.2 τ' H' = some r₀ → g₀.C = S.con → TR g₀ τ' t3 → SR g₀ H' h3 → (∀ c ∈ r₀.1, g₀.B c = true) → (∀ i, i < cu.lo → g.ρ i = g₀.ρ i) →
      Sim (g₀.cut cu st.2.n g.ρ r₀ t3 h3.n) (patT cu (writes c) N st.2.n st.1) (patH cu st.2) (pc'.filter fun p => p.1.upto cu.lo) t3 h3 := by
    intro g₀ r₀ τ' H' t3 h3 q1 q2 q3 q4 q5 q6
    obtain ⟨s1, s2⟩ := inst_sound q1 q3 q4 q5 q6
    refine ⟨s1, s2, fun p hp => ?_⟩
    obtain ⟨p1, p2⟩ := List.mem_filter.1 hp
    rw [← hpc p p1]
    unfold Sg.B Sg.d
    rw [show (g₀.cut cu st.2.n g.ρ r₀ t3 h3.n).C = g.C from q2.trans hg.symm]
    rw [X.upto_den (C := g.C) (ρ := g.ρ) (fun i hi => ?_) p2]
    simp only [Sg.cut, overR]
    rw [if_neg (by omega)]
  -- what a cut keeps
  have kept : ∀ {g₀ : Sg} {r₀ : Inst} {t3 : T} {h3 : AH}, (∀ d, d < fl → g₀.u d = g.u d) → (∀ b, b < st.2.n → g₀.σ b = g.σ b) →
      (∀ d, d < fl → (g₀.cut cu st.2.n g.ρ r₀ t3 h3.n).u d = g.u d) ∧ (∀ b, b < st.2.n → (g₀.cut cu st.2.n g.ρ r₀ t3 h3.n).σ b = g.σ b) := by
    intro g₀ r₀ t3 h3 q1 q2
    refine ⟨fun d hd => ?_, fun b hb => ?_⟩
    · simp only [Sg.cut]
      rw [if_neg (by omega)]
      exact q1 d hd
    · simp only [Sg.cut]
      rw [if_pos hb]
      exact q2 b hb
  refine w2 _ _ ?_
  refine AWP.loop (fun n t h => ∃ t3 h3 g' d, Weak S.E.P N t h t3 h3 ∧ g'.C = S.con ∧ g'.ρ = overR g.ρ cu.lo cu.cnt d ∧ ((∀ d, d < fl → g'.u d = g.u d) ∧ (∀ b, b < st.2.n → g'.σ b = g.σ b)) ∧ x.J cu.key g'.ρ ∧ x.ms cu.key g'.ρ = n ∧
      Sim g' (patT cu (writes c) N st.2.n st.1) (patH cu st.2) (pc'.filter fun p => p.1.upto cu.lo) t3 h3) (x.ms cu.key (overR g.ρ cu.lo cu.cnt (subR x.C g.ρ i.2.1))) ?_ ?_
  · refine ⟨t2, h2, g.cut cu st.2.n g.ρ i t2 h2.n, subR x.C g.ρ i.2.1, Weak.refl _ _ _ _, hg, ?_, kept (fun _ _ => rfl) (fun _ _ => rfl), ?_, ?_, sim hi hg ht2 hr2 hc (fun _ _ => rfl)⟩
    · simp only [Sg.cut]; rw [hxg]
    · simp only [Sg.cut]; rw [← hxg]; exact hJ
    · simp only [Sg.cut]; rw [← hxg]
  · intro n t₁ h₁ ⟨t3, h3, g₁, d, w3, hC, hρ, hus, hJ₁, hm₁, s₁⟩
    refine w3 _ _ ?_
    have hv₁ := hv d (by rw [← hρ]; exact hJ₁)
    rw [← hρ] at hv₁
    have hpn : st.2.n ≤ (patH cu st.2).n := Nat.le_add_right _ _
    refine hr _ _ _ _ _ _ _ _ _ _ _ _ _ hC s₁ hv₁ fun e τ' H' pc'' fl' t' h' g' m' k₂ s₂ v₂ => ?_
    have hfl := k₂.hfl
    have hlow : ∀ i, i < cu.lo → g'.ρ i = g.ρ i := fun i hi => by
      rw [k₂.hρ i (by omega), hρ]
      simp only [overR]
      rw [if_neg (by omega)]
    have hu' : ∀ d, d < fl → g'.u d = g.u d := fun d hd => (k₂.hu d (by omega)).trans (hus.1 d hd)
    have hσ' : ∀ b, b < st.2.n → g'.σ b = g.σ b := fun b hb => (k₂.hσ b (by omega)).trans (hus.2 b hb)
    have fin : ∀ e, VC x m' g'.ρ (k e τ' H' pc'' fl') → Q e t' h' := fun e v₂ => by
      refine hk e τ' H' pc'' fl' t' h' g' m' ⟨k₂.hC, fun i hi => hlow i (by omega), hu', fun b hb => hσ' b (by simp only at hgn; omega), fun a ha => ?_, by omega, ?_, fun e => by omega⟩ s₂ v₂
      · rw [k₂.hm a (by omega)]
        have hne : a ≠ cu.key := by omega
        simp only [upN, hne, if_false]
      · have := k₂.hnb
        simp only at hgn
        omega
    cases e with
    | normal =>
      have v₂ : VC x m' g'.ρ (match instOf cu (writes c) N st.1 st.2 (ghostAll cu (τ', H')).1 (ghostAll cu (τ', H')).2 with
        | some r => musts r.1 pc'' fun _ => .again cu.key cu.lo cu.cnt r.2.1
        | none => .stuck 32) := v₂
      obtain ⟨t4, h4, w4, ht4, hr4⟩ := ghostAll_sound (P := S.E.P) (N := N) (cu := cu) (st := (τ', H')) s₂.t s₂.h
      split at v₂
      · rename_i r' hi'
        have hxg' : x.C = g'.C := hx.trans k₂.hC.symm
        obtain ⟨hc', pc3, hpc3, v₃⟩ := musts_sound hxg' s₂.pc v₂
        simp only [VC] at v₃
        have hmk : m' cu.key = (n, g.ρ) := by
          rw [k₂.hm cu.key (by omega), ← hm₁]
          simp only [upN, if_true]
        rw [hmk] at v₃
        refine ⟨_, v₃.2, t4, h4, g'.cut cu st.2.n g.ρ r' t4 h4.n, subR x.C g'.ρ r'.2.1, w4, k₂.hC, ?_, kept hu' hσ', ?_, ?_, sim hi' k₂.hC ht4 hr4 hc' (fun i hi => (hlow i hi).symm)⟩
        · simp only [Sg.cut]; rw [hxg']
        · simp only [Sg.cut]; rw [← hxg']; exact v₃.1
        · simp only [Sg.cut]; rw [← hxg']
      · exact v₂.elim
    | _ => exact fin _ v₂

theorem cexec_sound (hS : S.Ok) (hx : x.C = S.con) {cuts : Cuts} : ∀ n, CSound S x (cexec S cuts n)
  | 0 => fun _ _ _ _ _ _ _ _ _ _ _ _ _ _ _ hv _ => hv.elim
  | n + 1 => by
    have ih := cexec_sound hS hx (cuts := cuts) n
    intro f N c τ H pc fl k t h g m Q hg hs hv hk
    have flat : VC x m g.ρ (sexec S (n + 1) N c τ H pc fun e τ' H' pc' => k e τ' H' pc' fl) → AWP S.E.P N c t h Q := fun hv => by
      obtain ⟨e, t', h', τ', H', pc', q1, q2, q3⟩ := sexec_sound (x := x) (m := m) (g := g) hS (hx.trans hg.symm) hg (n + 1) _ _ _ _ _ _ _ _ hs hv
      refine aexec_sound hS.fine (n + 1) _ _ _ _ _ ?_
      have hkeep := aexec_keeps hS.fine (n + 1) N c t h
      rw [q1] at hkeep ⊢
      exact hk e τ' H' pc' fl t' h' g m (Kp.refl hg (n_mono hs.h q2.h hkeep.n_le)) q2 q3
    cases c
    case region id ops draw =>
      cases draw with
      | true => exact flat hv
      | false =>
        simp only [cexec] at hv
        exact OWP.region (csops_sound hS hx ih ops.toList hg hs hv fun τ' H' pc' fl' t' h' g' m' kp s' v' => hk _ τ' H' pc' fl' t' h' g' m' kp s' v')
    case seq a b =>
      simp only [cexec] at hv
      refine AWP.seq (ih _ _ _ _ _ _ _ _ _ _ _ _ _ hg hs hv fun e τ' H' pc' fl' t' h' g' m' k₂ s₂ v₂ => ?_)
      cases e with
      | normal => exact ih _ _ _ _ _ _ _ _ _ _ _ _ _ k₂.hC s₂ v₂ fun e τ3 H3 pc3 fl3 t3 h3 g3 m3 k₃ s₃ v₃ => hk e τ3 H3 pc3 fl3 t3 h3 g3 m3 (k₂.trans k₃) s₃ v₃
      | _ => exact hk _ _ _ _ _ _ _ _ _ k₂ s₂ v₂
    case cond y a b =>
      simp only [cexec] at hv
      split at hv
      · rename_i z hz
        have e := sev_sound hs.t hz
        obtain ⟨pc', hp', h1⟩ := sbranch_sound (hx.trans hg.symm) hs.pc hv
        have e' : ev t y = some (.bool (g.B z)) := e
        refine AWP.cond e' ?_
        rcases h1 with ⟨h1, h2⟩ | ⟨h1, h2⟩
        · rw [h1]; exact ih _ _ _ _ _ _ _ _ _ _ _ _ _ hg ⟨hs.t, hs.h, hp'⟩ h2 hk
        · rw [h1]; exact ih _ _ _ _ _ _ _ _ _ _ _ _ _ hg ⟨hs.t, hs.h, hp'⟩ h2 hk
      · exact hv.elim
    case block id c =>
      simp only [cexec] at hv
      refine AWP.block (ih _ _ _ _ _ _ _ _ _ _ _ _ _ hg hs hv fun e τ' H' pc' fl' t' h' g' m' k₂ s₂ v₂ => ?_)
      cases e with
      | exit id' =>
        simp only at v₂
        simp only [blockQ]
        split at v₂
        · rename_i e; rw [if_pos e]; exact hk _ _ _ _ _ _ _ _ _ k₂ s₂ v₂
        · rename_i e; rw [if_neg e]; exact hk _ _ _ _ _ _ _ _ _ k₂ s₂ v₂
      | _ => exact hk _ _ _ _ _ _ _ _ _ k₂ s₂ v₂
    case loop c =>
      simp only [cexec] at hv
      split at hv
      · exact ccut_sound hx ih f N c _ _ _ _ _ _ _ _ _ _ _ hg hs hv hk
      · exact cloop_sound ih f N c n _ _ _ _ _ _ _ _ _ _ hg hs hv hk
    case scope c =>
      simp only [cexec] at hv
      exact cscope_sound ih f N c n _ _ _ _ _ _ _ _ _ _ hg hs hv hk
    all_goals exact flat hv

end

end Go.AM
