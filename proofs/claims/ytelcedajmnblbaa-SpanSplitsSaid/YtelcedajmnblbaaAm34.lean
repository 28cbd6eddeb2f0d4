/-
  AM, part 34: a law's entry: what comes in fits the law's contract; what comes out is what the row asks.
-/
import Derived.Test.YtelcedajmnblbaaAm33
import Derived.SizedLaws
import Derived.Carry
import Derived.ChangeShapes
import Derived.RowKit
set_option linter.unusedVariables false
set_option linter.unusedSimpArgs false
namespace Go.AM

/-! ### a function that is closed -/
def isB (b : Bool) : Value × AH → Bool
  | (.bool c, _) => c == b
  | _ => false

def cTrue : Con := { ins := [], outs := [.k .bool], pre := fun _ => true, f := fun _ => [.b true], tot := true }

/-- a contract out of a run of the abstract machine -/
theorem ConsOk.closed {P : Program} (hm : P.follows .mixedOrders = true) (hn : namesOk P = true) {l : Cons} (hl : ConsOk P l) (n : Nat) {g : FuncId}
    (h : (acall (mkE P l) (aexec (mkE P l) n) g [] AH.empty).all (isB true) = true) : ConsOk P ((g, cTrue) :: l) := by
  have hS := mkS_ok hm hn hl
  obtain ⟨h1, h2⟩ := acalls_run (E := mkE P l) hS.fine n (Q := fun v h => isB true (v, h) = true) (Res.sat_all h)
  refine hl.cons (Canon.specOk h1 ?_)
  intro ds _ _
  refine (show ACalls P g [] AH.empty _ from fun ι args' w hL hr => Calls.mono (h2 ι args' w hL hr) ?_)
  rintro e w' ⟨v, h', v', ι', q, r⟩
  refine ⟨v, h', v', ι', ⟨[v], rfl, ?_⟩, r⟩
  cases v <;> simp only [isB, Bool.false_eq_true] at q
  rename_i b
  have hb : b = true := by simpa using q
  subst hb
  exact ⟨rfl, [], rfl, trivial⟩

/-! ### what types are made of -/
def kindsL (f : TypeId → Option (List K)) : List Field → Option (List K)
  | [] => some []
  | x :: xs => match f x.type, kindsL f xs with
    | some a, some b => some (a ++ b)
    | _, _ => none

def kindsOf (P : Program) : Nat → TypeId → Option (List K)
  | 0, _ => none
  | n + 1, t => match P.underlying t with
    | some .bool => some [.bool]
    | some (.int k) => some [.int k]
    | some .string => some [.str]
    | some (.struct fs) => kindsL (kindsOf P n) fs.toList
    | _ => none

def wfK : K → D → Bool
  | .int k, d => (Lit.int k d.toI).wf
  | .bool, _ => true
  | .str, d => decide (d.toS.size ≤ maxLen)
def wfL : List K → List D → Bool
  | [], _ => true
  | k :: ks, ds => wfK k (ds.headD default) && wfL ks ds.tail
def wfSh : Sh → D → Bool
  | .k kd, d => wfK kd d
  | .agg ks, d => wfL ks d.toL
  | .row ks, d => decide (d.toL.length ≤ maxLen) && d.toL.all fun e => wfL ks e.toL
def wfs : List Sh → List D → Bool
  | [], _ => true
  | s :: ss, ds => wfSh s (ds.headD default) && wfs ss ds.tail

theorem decL_append : ∀ {ks ks' : List K} {cs cs' : List Value} {ds ds' : List D}, decL ks cs = some ds → decL ks' cs' = some ds' → decL (ks ++ ks') (cs ++ cs') = some (ds ++ ds')
  | [], ks', [], cs', ds, ds', h, h' => by simp only [decL, Option.some.injEq] at h; subst h; exact h'
  | k :: ks, ks', c :: cs, cs', ds, ds', h, h' => by
    simp only [decL] at h
    split at h
    · rename_i d r h1 h2
      obtain rfl := Option.some.inj h
      simp only [List.cons_append, decL, h1, decL_append h2 h']
    · cases h
  | [], _, _ :: _, _, _, _, h, _ => by cases h
  | _ :: _, _, [], _, _, _, h, _ => by cases h
theorem decL_length : ∀ {ks : List K} {cs : List Value} {ds : List D}, decL ks cs = some ds → ds.length = ks.length ∧ cs.length = ks.length
  | [], [], ds, h => by simp only [decL, Option.some.injEq] at h; subst h; exact ⟨rfl, rfl⟩
  | k :: ks, c :: cs, ds, h => by
    simp only [decL] at h
    split at h
    · rename_i d r h1 h2
      obtain rfl := Option.some.inj h
      simp [decL_length h2]
    · cases h
  | [], _ :: _, _, h => by cases h
  | _ :: _, [], _, h => by cases h
theorem wfL_append : ∀ {ks ks' : List K} {ds ds' : List D}, ds.length = ks.length → wfL ks ds = true → wfL ks' ds' = true → wfL (ks ++ ks') (ds ++ ds') = true
  | [], ks', [], ds', _, _, h' => h'
  | k :: ks, ks', d :: ds, ds', hl, h, h' => by
    simp only [wfL, List.headD_cons, List.tail_cons, Bool.and_eq_true, List.cons_append] at h ⊢
    exact ⟨h.1, wfL_append (by simpa using hl) h.2 h'⟩
  | [], _, _ :: _, _, hl, _, _ => by simp at hl
  | _ :: _, _, [], _, hl, _, _ => by simp at hl

theorem Rd.dec {P : Program} {h : AH} : ∀ (n : Nat) {t : TypeId} {cs : List Value} {ks : List K}, Rd P h t cs → kindsOf P n t = some ks → ∃ ds, decL ks cs = some ds ∧ wfL ks ds = true := by
  intro n
  induction n with
  | zero => intro t cs ks _ hk; cases hk
  | succ n ih =>
    intro t cs ks hr hk
    cases hr with
    | bool b hu => simp only [kindsOf, hu, Option.some.injEq] at hk; subst hk; exact ⟨[.b b], rfl, rfl⟩
    | int hu wf =>
      rename_i k m
      simp only [kindsOf, hu, Option.some.injEq] at hk; subst hk; exact ⟨[.i m], by simp [decL, decK], by simp [wfL, wfK, wf]⟩
    | str s hu hs => simp only [kindsOf, hu, Option.some.injEq] at hk; subst hk; exact ⟨[.s s], rfl, by simp [wfL, wfK, hs]⟩
    | slice hu => simp [kindsOf, hu] at hk
    | struct hu hl hz hf =>
      rename_i fs ps
      simp only [kindsOf, hu] at hk
      have key : ∀ (fl : List Field) (ps : List (List Value)) (ks : List K), ps.length = fl.length → (∀ (i : Nat) (f : Field) p, fl[i]? = some f → ps[i]? = some p → Rd P h f.type p) → kindsL (kindsOf P n) fl = some ks →
          ∃ ds, decL ks ps.flatten = some ds ∧ wfL ks ds = true := by
        intro fl
        induction fl with
        | nil =>
          intro ps ks hl _ hk
          simp only [kindsL, Option.some.injEq] at hk
          subst hk
          have : ps = [] := List.eq_nil_of_length_eq_zero (by simpa using hl)
          subst this
          exact ⟨[], rfl, rfl⟩
        | cons f fl ihf =>
          intro ps ks hl hf hk
          simp only [kindsL] at hk
          split at hk
          · rename_i a b h1 h2
            obtain rfl := Option.some.inj hk
            match ps, hl with
            | p :: ps, hl =>
              obtain ⟨d1, e1, w1⟩ := ih (hf 0 f p rfl rfl) h1
              obtain ⟨d2, e2, w2⟩ := ihf ps b (by simpa using hl) (fun i f' p' q1 q2 => hf (i + 1) f' p' (by simpa using q1) (by simpa using q2)) h2
              exact ⟨d1 ++ d2, by rw [List.flatten_cons]; exact decL_append e1 e2, wfL_append (decL_length e1).1 w1 w2⟩
          · cases hk
      exact key fs.toList ps ks hl hf hk

/-! ### arguments -/
def isStruct (P : Program) (t : TypeId) : Bool := match P.underlying t with | some (.struct _) => true | _ => false
def argV (P : Program) (t : TypeId) (cs : List Value) : Value := if isStruct P t then .agg cs.toArray else cs.headD undef

def ArgsRd (P : Program) (h : AH) : List TypeId → List Value → Prop
  | [], [] => True
  | t :: ts, a :: as => (∃ cs, Rd P h t cs ∧ a = argV P t cs) ∧ ArgsRd P h ts as
  | _, _ => False

def fitsB (P : Program) (n : Nat) (t : TypeId) : Sh → Bool
  | .k kd => !isStruct P t && decide (kindsOf P n t = some [kd])
  | .agg ks => isStruct P t && decide (kindsOf P n t = some ks)
  | .row ks => match P.underlying t with
    | some (.slice e) => decide (kindsOf P n e = some ks) && decide (P.cellsOf e = ks.length) && decide (0 < ks.length)
    | _ => false
def fitsAll (P : Program) (n : Nat) : List TypeId → List Sh → Bool
  | [], [] => true
  | t :: ts, s :: ss => fitsB P n t s && fitsAll P n ts ss
  | _, _ => false

theorem decR_elems {P : Program} {h : AH} {n : Nat} {e : TypeId} {ks : List K} (hk : kindsOf P n e = some ks) : ∀ {elems : List (List Value)}, (∀ (i : Nat) p, elems[i]? = some p → Rd P h e p) →
    ∃ rs, decR ks elems.length elems.flatten = some rs ∧ (rs.all fun r => wfL ks r.toL) = true
  | [], _ => ⟨[], rfl, rfl⟩
  | p :: ps, he => by
    obtain ⟨d, h1, h2⟩ := (he 0 p rfl).dec n hk
    obtain ⟨rs, h3, h4⟩ := decR_elems hk (elems := ps) fun i q hq => he (i + 1) q (by simpa using hq)
    have hl := (decL_length h1).2
    refine ⟨.l d :: rs, ?_, by simp [h2, h4]⟩
    simp only [List.length_cons, decR, List.flatten_cons]
    rw [List.take_append_of_le_length (by omega), List.take_of_length_le (by omega), h1, List.drop_append_of_le_length (by omega), List.drop_of_length_le (by omega), List.nil_append, h3]

theorem flatten_take {n : Nat} : ∀ {ps : List (List Value)} (m : Nat), (∀ (i : Nat) p, ps[i]? = some p → p.length = n) → ps.flatten.take (m * n) = (ps.take m).flatten
  | ps, 0, _ => by simp
  | [], m + 1, _ => by simp
  | p :: ps, m + 1, h => by
    have h0 := h 0 p rfl
    have ih := flatten_take (ps := ps) (n := n) m fun i q hq => h (i + 1) q (by simpa using hq)
    rw [List.flatten_cons, List.take_append, h0, List.take_of_length_le (by rw [h0, Nat.add_mul]; omega), Nat.add_mul, Nat.one_mul, Nat.add_sub_cancel, ih, List.take_succ_cons, List.flatten_cons]

theorem ArgsRd.decs {P : Program} {h : AH} {n : Nat} : ∀ {ts : List TypeId} {as : List Value} {ss : List Sh}, ArgsRd P h ts as → fitsAll P n ts ss = true → ∃ xs, decs h ss as = some xs ∧ wfs ss xs = true
  | [], [], [], _, _ => ⟨[], rfl, rfl⟩
  | t :: ts, a :: as, s :: ss, hr, hf => by
    simp only [fitsAll, Bool.and_eq_true] at hf
    obtain ⟨⟨cs, h1, rfl⟩, h2⟩ := hr
    obtain ⟨xs, e1, e2⟩ := ArgsRd.decs h2 hf.2
    have main : ∃ d, s.dec h (argV P t cs) = some d ∧ wfSh s d = true := by
      have hf1 := hf.1
      cases s with
      | k kd =>
        simp only [fitsB, Bool.and_eq_true, Bool.not_eq_true', decide_eq_true_eq] at hf1
        obtain ⟨ds, q1, q2⟩ := h1.dec n hf1.2
        match cs, ds, q1 with
        | [c], [d], q1 =>
          simp only [decL] at q1
          split at q1
          · rename_i d' r hd1 hd2
            simp only [Option.some.injEq, List.cons.injEq] at q1
            obtain ⟨rfl, rfl⟩ := q1
            exact ⟨d', by simp [argV, hf1.1, Sh.dec, hd1], by simpa [wfL, wfSh] using q2⟩
          · cases q1
        | [], _, q1 => cases q1
        | [c], [], q1 => exact absurd (decL_length q1).1 (by simp)
        | [c], _ :: _ :: _, q1 => exact absurd (decL_length q1).1 (by simp)
        | _ :: _ :: _, _, q1 => simp [decL] at q1
      | agg ks =>
        simp only [fitsB, Bool.and_eq_true, decide_eq_true_eq] at hf1
        obtain ⟨ds, q1, q2⟩ := h1.dec n hf1.2
        exact ⟨.l ds, by simp [argV, hf1.1, Sh.dec, q1], by simpa [wfSh] using q2⟩
      | row ks =>
        simp only [fitsB] at hf1
        split at hf1
        case h_2 => cases hf1
        rename_i e hu
        simp only [Bool.and_eq_true, decide_eq_true_eq] at hf1
        obtain ⟨⟨f1, f2⟩, f3⟩ := hf1
        have hns : isStruct P t = false := by simp [isStruct, hu]
        cases h1 with
        | slice hu' hbn hb hc hl hm hz he =>
          rename_i e' b len cap elems
          have : e' = e := by rw [hu] at hu'; simpa using hu'.symm
          subst this
          obtain ⟨rs, q1, q2⟩ := decR_elems (P := P) (h := h) f1 (elems := elems.take len) fun i p hp => by
            rw [List.getElem?_take] at hp
            split at hp
            · exact he i p hp
            · cases hp
          have hlen : (elems.take len).length = len := by rw [List.length_take]; omega
          rw [hlen] at q1
          have hdl : rs.length = len := (decR_inv q1).2
          refine ⟨.l rs, ?_, by simp [wfSh, hdl, q2]; omega⟩
          have hcells : sliceCells h ks.length (.slice (some ⟨b, 0, none⟩) len cap) = some (elems.take len).flatten := by
            simp only [sliceCells]
            split
            · rename_i h0; subst h0; simp
            · simp only [AH.getN, hb, Nat.zero_add, List.drop_zero]
              have hzf : elems.flatten.length = cap * ks.length := by rw [flatten_length (n := ks.length) fun i p hp => by rw [hz i p hp, f2], hc]
              rw [if_pos (by rw [hzf]; exact Nat.mul_le_mul_right _ hl), flatten_take (n := ks.length) len fun i p hp => by rw [hz i p hp, f2]]
          simp only [argV, hns, Bool.false_eq_true, if_false, List.headD_cons, Sh.dec]
          rw [if_pos ⟨f3, by simp [rowEs, hb, f2]⟩, hcells]
          simp [q1]
        | bool _ hu' => rw [hu] at hu'; cases hu'
        | int hu' => rw [hu] at hu'; cases hu'
        | str _ hu' => rw [hu] at hu'; cases hu'
        | struct hu' => rw [hu] at hu'; cases hu'
    obtain ⟨d, m1, m2⟩ := main
    exact ⟨d :: xs, by simp only [AM.decs, m1, e1], by simp only [wfs, List.headD_cons, List.tail_cons, m2, e2, Bool.and_self]⟩
  | [], _ :: _, _, hr, _ => hr.elim
  | _ :: _, [], _, hr, _ => hr.elim
  | [], [], _ :: _, _, hf => by cases hf
  | _ :: _, _ :: _, [], _, hf => by cases hf

end Go.AM
