/-
  AM, part 35: a law's entry, from the row's memory on.
-/
import Derived.Test.YtelcedajmnblbaaAm34
import Derived.ChangeOld
import Derived.OpenShut
import Derived.Below
set_option linter.unusedVariables false
set_option linter.unusedSimpArgs false
namespace Go.AM
open Go.ChangeShapes Go.RowKit

theorem LRel.one {ι : Inj} {cs : List Value} {v : Value} (h : LRel ι cs [v]) : VRel ι (cs.headD undef) v := by
  obtain ⟨h1, h2⟩ := h
  match cs, h1 with
  | [c], _ => exact h2 0 c v rfl rfl

theorem okWide_cells {P : Program} {W : World} {b : Nat} {t : TypeId} {v : Value} {n : Nat} (hok : okT P n t = true) (hv : Value.okWide P W .any b t v) :
    if isStruct P t then ∃ cs, v = .agg cs else v.cells = #[v] := by
  cases n with
  | zero => cases hok
  | succ n =>
    cases hu : P.underlying t with
    | none => simp [okT, hu] at hok
    | some d =>
      cases d <;> simp only [okT, hu, Bool.false_eq_true] at hok
      case bool => simp only [isStruct, hu, Bool.false_eq_true, if_false]; obtain ⟨b, rfl⟩ := WideShapes.okWide_bool hu hv; rfl
      case int k => simp only [isStruct, hu, Bool.false_eq_true, if_false]; obtain ⟨b, rfl⟩ := WideShapes.okWide_int hu hv; rfl
      case string => simp only [isStruct, hu, Bool.false_eq_true, if_false]; obtain ⟨b, rfl⟩ := WideShapes.okWide_string hu hv; rfl
      case slice e => simp only [isStruct, hu, Bool.false_eq_true, if_false]; obtain ⟨a, l, c, rfl⟩ := WideShapes.okWide_slice hu hv; rfl
      case struct fs =>
        simp only [isStruct, hu, if_true]
        unfold Value.okWide at hv
        rw [hu] at hv
        obtain ⟨cs, h, _⟩ := hv
        exact ⟨cs, h⟩

theorem argV_rel {P : Program} {ι : Inj} {W : World} {b : Nat} {t : TypeId} {v : Value} {cs : List Value} {n : Nat} (hok : okT P n t = true) (hv : Value.okWide P W .any b t v) (hr : LRel ι cs v.cells.toList) :
    VRel ι (argV P t cs) v := by
  have h := okWide_cells hok hv
  unfold argV
  split at h
  · rename_i hs
    obtain ⟨c, rfl⟩ := h
    rw [if_pos hs]
    exact .agg (by simpa [Value.cells] using hr.1) fun i x x' h1 h2 => hr.2 i x x' (by simpa using h1) (by simpa [Value.cells] using h2)
  · rename_i hs
    rw [if_neg hs]
    rw [h] at hr
    exact hr.one

theorem ArgsRd.mono {P : Program} {h h' : AH} (hn : h.n ≤ h'.n) (hs : ∀ b, b < h.n → h'.b b = h.b b) : ∀ {ts : List TypeId} {as : List Value}, ArgsRd P h ts as → ArgsRd P h' ts as
  | [], [], _ => trivial
  | t :: ts, a :: as, hr => ⟨let ⟨cs, h1, h2⟩ := hr.1; ⟨cs, h1.mono hn hs, h2⟩, ArgsRd.mono hn hs hr.2⟩
  | [], _ :: _, hr => hr.elim
  | _ :: _, [], hr => hr.elim

theorem LRel.consV {ι : Inj} {a v : Value} {as vs : List Value} (h : LRel ι as vs) (hv : VRel ι a v) : LRel ι (a :: as) (v :: vs) := by
  refine ⟨by simp [h.1], fun i x x' h1 h2 => ?_⟩
  cases i with
  | zero => simp at h1 h2; subst h1; subst h2; exact hv
  | succ i => exact h.2 i x x' (by simpa using h1) (by simpa using h2)

theorem law_args {H : Type} {enc : TypeId × Value → H} {P : Program} {W : World} {b : Nat} {n : Nat} : ∀ {ts : List TypeId} {vs : List Value} {ds : List (DataW H)} {p : List MemPlace},
    DataW.TrodAll enc P W 0 (fun _ => true) true ts vs ds p → (∀ (j : Nat) t v, ts[j]? = some t → vs[j]? = some v → Value.okWide P W .any b t v) → (ts.all (okT P n)) = true →
    ∀ (ι : Inj) (h : AH), RoRel ι h W → ∃ (ι' : Inj) (h' : AH) (as : List Value), ι.le ι' ∧ h.n ≤ h'.n ∧ (∀ b, b < h.n → h'.b b = h.b b) ∧ RoRel ι' h' W ∧ LRel ι' as vs ∧ ArgsRd P h' ts as := by
  intro ts
  induction ts with
  | nil =>
    intro vs ds p hA _ _ ι h hr
    obtain ⟨rfl, _, _⟩ := trodAll_nil hA
    exact ⟨ι, h, [], Inj.le_refl ι, Nat.le_refl _, fun _ _ => rfl, hr, LRel.nil ι, trivial⟩
  | cons t ts ih =>
    intro vs ds p hA hval hok ι h hr
    obtain ⟨v, vs', d, ds', p', q', rfl, rfl, rfl, ⟨fuel, h1⟩, h2⟩ := trodAll_cons hA
    simp only [List.all_cons, Bool.and_eq_true] at hok
    obtain ⟨_, got⟩ := trod_got n fuel t _ _ h1 hok.1
    obtain ⟨ι₁, h₁, cs, l1, n1, s1, r1, e1, rd⟩ := got ι h hr
    obtain ⟨ι₂, h₂, as, l2, n2, s2, r2, e2, rds⟩ := ih h2 (fun j t v q1 q2 => hval (j + 1) t v (by simpa using q1) (by simpa using q2)) hok.2 ι₁ h₁ r1
    refine ⟨ι₂, h₂, argV P t cs :: as, Inj.le_trans l1 l2, Nat.le_trans n1 n2, fun b hb => (s2 b (Nat.lt_of_lt_of_le hb n1)).trans (s1 b hb), r2, ?_, ⟨cs, rd.mono n2 s2, rfl⟩, rds⟩
    exact e2.consV ((argV_rel hok.1 (hval 0 t v rfl rfl) e1).mono l2)

/-! ### how long slices are -/
def lenV : Value → Nat
  | .slice _ n _ => n
  | _ => 0
def capB (P : Program) (t : TypeId) (cap : Nat) : Bool := match P.underlying t with
  | some (.slice e) => decide (reachBytes < (cap + 1) * P.bytesOf e)
  | _ => true
def capsB (P : Program) : List TypeId → List Nat → Bool
  | [], [] => true
  | t :: ts, c :: cs => capB P t c && capsB P ts cs
  | _, _ => false
def lensOk : List Nat → List Value → Prop
  | [], [] => True
  | c :: cs, v :: vs => lenV v ≤ c ∧ lensOk cs vs
  | _, _ => False

theorem law_lens {H : Type} {enc : TypeId × Value → H} {P : Program} {W : World} {b n : Nat} : ∀ {ts : List TypeId} {caps : List Nat} {vs : List Value} {ds : List (DataW H)} {p : List MemPlace},
    DataW.TrodAll enc P W 0 (fun _ => true) true ts vs ds p → (∀ (j : Nat) t v, ts[j]? = some t → vs[j]? = some v → Value.okWide P W .any b t v) → (ts.all (okT P n)) = true →
    (∀ x ∈ DataW.weightsEach P ts ds, x ≤ reachBytes) → capsB P ts caps = true → lensOk caps vs
  | [], [], vs, ds, p, hA, _, _, _, _ => by obtain ⟨rfl, _, _⟩ := trodAll_nil hA; trivial
  | t :: ts, c :: caps, vs, ds, p, hA, hval, hok, hw, hc => by
    obtain ⟨v, vs', d, ds', p', q', rfl, rfl, rfl, ⟨fuel, h1⟩, h2⟩ := trodAll_cons hA
    simp only [List.all_cons, Bool.and_eq_true] at hok
    simp only [capsB, Bool.and_eq_true] at hc
    simp only [DataW.weightsEach, List.mem_append] at hw
    refine ⟨?_, law_lens h2 (fun j t v q1 q2 => hval (j + 1) t v (by simpa using q1) (by simpa using q2)) hok.2 (fun x hx => hw x (.inr hx)) hc.2⟩
    have hv := hval 0 t v rfl rfl
    have hcc := okWide_cells hok.1 hv
    have hc1 := hc.1
    cases hu : P.underlying t with
    | none =>
      cases n with
      | zero => cases hok.1
      | succ n => have := hok.1; simp [okT, hu] at this
    | some d₀ =>
      cases n with
      | zero => cases hok.1
      | succ n =>
      have hok1 := hok.1
      cases d₀ <;> simp only [okT, hu, Bool.false_eq_true] at hok1
      case bool => obtain ⟨b, rfl⟩ := WideShapes.okWide_bool hu hv; exact Nat.zero_le _
      case int k => obtain ⟨b, rfl⟩ := WideShapes.okWide_int hu hv; exact Nat.zero_le _
      case string => obtain ⟨b, rfl⟩ := WideShapes.okWide_string hu hv; exact Nat.zero_le _
      case struct fs =>
        simp only [isStruct, hu, if_true] at hcc
        obtain ⟨cs, rfl⟩ := hcc
        exact Nat.zero_le _
      case slice e =>
        obtain ⟨a, l, k, rfl⟩ := WideShapes.okWide_slice hu hv
        simp only [capB, hu, decide_eq_true_eq] at hc1
        rcases DataW.trod_slice hu h1 with ⟨e1, _⟩ | ⟨a', len, cap, elems, rest, m, _, e1, e2, _, hl, _, hel, _⟩
        · simp only [Value.cells, List.cons.injEq, Value.slice.injEq] at e1
          obtain ⟨⟨rfl, rfl, rfl⟩, _⟩ := e1
          exact Nat.zero_le _
        · simp only [Value.cells, List.cons.injEq, Value.slice.injEq] at e1
          obtain ⟨⟨rfl, rfl, rfl⟩, _⟩ := e1
          simp only [Prod.mk.injEq] at e2
          have := hw ((elems.length + rest.length) * P.bytesOf e) (.inl (by rw [e2.1]; simp [DataW.weights, hu]))
          show l ≤ c
          rw [hel] at this
          refine Nat.le_of_not_lt fun hlt => ?_
          have h3 : (c + 1) * P.bytesOf e ≤ (l + rest.length) * P.bytesOf e := Nat.mul_le_mul_right _ (by omega)
          omega
  | [], _ :: _, _, _, _, _, _, _, _, hc => by cases hc
  | _ :: _, [], _, _, _, _, _, _, _, hc => by cases hc

def capped : List Sh → List Nat → List D → Bool
  | .row _ :: ss, c :: cs, ds => decide ((ds.headD default).toL.length ≤ c) && capped ss cs ds.tail
  | _ :: ss, _ :: cs, ds => capped ss cs ds.tail
  | _, _, _ => true

theorem decs_capped {ι : Inj} {h : AH} : ∀ {ss : List Sh} {as vs : List Value} {caps : List Nat} {xs : List D}, decs h ss as = some xs → LRel ι as vs → lensOk caps vs → capped ss caps xs = true
  | [], _, _, _, _, _, _, _ => by simp [capped]
  | s :: ss, [], _, _, _, hd, _, _ => by cases hd
  | s :: ss, a :: as, [], _, _, _, hr, _ => by have := hr.1; simp at this
  | s :: ss, a :: as, v :: vs, [], _, _, _, hl => hl.elim
  | s :: ss, a :: as, v :: vs, c :: caps, xs, hd, hr, hl => by
    simp only [decs] at hd
    split at hd
    · rename_i d ds h1 h2
      obtain rfl := Option.some.inj hd
      have ih := decs_capped (ι := ι) h2 ⟨by have := hr.1; simpa using this, fun i x x' q1 q2 => hr.2 (i + 1) x x' (by simpa using q1) (by simpa using q2)⟩ hl.2
      cases s with
      | k kd => simpa [capped] using ih
      | agg ks => simpa [capped] using ih
      | row ks =>
        simp only [capped, List.headD_cons, List.tail_cons, ih, Bool.and_true, decide_eq_true_eq]
        cases a <;> simp only [Sh.dec] at h1 <;> try (cases h1; done)
        rename_i p n k
        split at h1
        case isFalse => cases h1
        obtain ⟨l, _, q2⟩ := Option.bind_eq_some_iff.1 h1
        obtain ⟨rs, q3, rfl⟩ := Option.map_eq_some_iff.1 q2
        have hn := (decR_inv q3).2
        have hv := hr.2 0 _ v rfl rfl
        have : lenV v = n := by cases hv <;> rfl
        have h2 := hl.1
        rw [this] at h2
        refine decide_eq_true ?_
        show rs.length ≤ c
        omega
    · cases hd

/-! ### the law -/
theorem below_of_ext {ι ι' : Inj} {h h' : AH} {W W' : World} (hr : RoRel ι h W) (e : Ext ι h W ι' h' W') : Below W.heap.size W W' :=
  ⟨e.os, e.tape, e.output, e.size, fun B hB => e.frame B hB fun b I _ hm => by have := hr.ro b; rw [(mut_wr hm).1] at this; cases this⟩

def lawPre (ss : List Sh) (caps : List Nat) (ds : List D) : Bool := wfs ss ds && capped ss caps ds
/-- a law's contract -/
def cLaw (ss : List Sh) (caps : List Nat) : Con := { ins := ss, outs := [.k .bool], pre := lawPre ss caps, f := fun _ => [.b true] }

theorem law_calls {H : Type} {enc : TypeId × Value → H} {P : Program} {W : World} {b n : Nat} {f : FuncId} {ts : List TypeId} {ss : List Sh} {caps : List Nat} {args : Array Value} {ds : List (DataW H)} {p : List MemPlace}
    (hs : SpecOk P f (specOf (cLaw ss caps))) (hA : DataW.TrodAll enc P W 0 (fun _ => true) true ts args.toList ds p) (hval : ∀ (j : Nat) t v, ts[j]? = some t → args.toList[j]? = some v → Value.okWide P W .any b t v)
    (hw : ∀ x ∈ DataW.weightsEach P ts ds, x ≤ reachBytes) (hok : ((ts.all (okT P n)) && fitsAll P n ts ss && capsB P ts caps) = true) :
    Calls P f args W fun e W' => e = .returned (.bool true) ∧ Below W.heap.size W W' := by
  simp only [Bool.and_eq_true] at hok
  obtain ⟨⟨hok1, hok2⟩, hok3⟩ := hok
  obtain ⟨ι, h, as, _, _, _, hr, hl, hrd⟩ := law_args hA hval hok1 (fun _ => none) AH.empty (RoRel.empty W)
  obtain ⟨xs, hd, hwf⟩ := hrd.decs hok2
  have hcap := decs_capped (ι := ι) hd hl (law_lens hA hval hok1 hw hok3)
  have hpre : (cLaw ss caps).ok xs = true := by simp [Con.ok, cLaw, lawPre, hwf, hcap]
  have := hs.2 as h (.bool true) h (by
    have hd' : decs h (cLaw ss caps).ins as = some xs := hd
    unfold specOf
    rw [hd']
    simp only [hpre, if_true]
    simp [cLaw, encs, Sh.enc, tup1, AM.enc])
  refine Calls.mono (this ι args W hl hr.rel) ?_
  rintro e W' ⟨v, h', v', ι', ⟨rfl, rfl⟩, rfl, hv, _, hext⟩
  cases hv
  exact ⟨rfl, below_of_ext hr hext⟩

theorem trodAll_back {H : Type} {enc : TypeId × Value → H} {P : Program} {W W' : World} (hlaid : laidOutB P = true) (hb : Below W.heap.size W W') : ∀ {ts : List TypeId} {vs : List Value} {ds : List (DataW H)} {p : List MemPlace},
    DataW.TrodAll enc P W 0 (fun _ => true) true ts vs ds p → (ts.all fun t => P.readableRec t && decide (t < P.types.size)) = true → DataW.TrodAll enc P W' 0 (fun b => decide (b < W.heap.size)) true ts vs ds p
  | [], vs, ds, p, hA, _ => by obtain ⟨rfl, rfl, rfl⟩ := trodAll_nil hA; exact trodAll_mk0
  | t :: ts, vs, ds, p, hA, ht => by
    obtain ⟨v, vs', d, ds', p', q', rfl, rfl, rfl, h1, h2⟩ := trodAll_cons hA
    simp only [List.all_cons, Bool.and_eq_true, decide_eq_true_eq] at ht
    exact trodAll_cons_mk (Below.trod hlaid ht.1.1 ht.1.2 h1 hb fun x hx => by obtain ⟨m, hm⟩ := h1; exact DataW.trod_lt m _ _ _ hm x hx) (trodAll_back hlaid hb h2 ht.2)

/-- the row -/
theorem lifted {C : Checked} {os : Os} {f : FuncId} {fn : Func} {s : ChangeSpec} {H : Type} {enc : TypeId × Value → H} {n : Nat} {ss : List Sh} {caps : List Nat}
    (own : ownKnob C.prog.godebug = none) (started : os.Started) (noInit : C.prog.inits.idxOf? f = none) (hfn : C.prog.funcs[f]? = some fn)
    (witness : ∃ (w : World) (tape : Tape) (i : Input), w.os = os ∧ (w.forCall tape i).Shaped C.prog ∧ i.vars = [] ∧ Input.okWide C.prog (w.forCall tape i) .any w.heap.size f i ∧
      s.pre6 enc C.prog fn [] false (w.forCall tape i).memory i.args ∧ ({} : Assume).holds C.prog (lone (Frame.enter C.prog f i.args .normal) [] (w.forCall tape i)))
    (hvars : s.vars = []) (hplain : s.plain.varTypes C.prog = []) (hres : fn.resultTypes.toList.map C.prog.underlying = [some .bool]) (hlaid : laidOutB C.prog = true)
    (hts : (fn.params.toList.all fun t => C.prog.readableRec t && decide (t < C.prog.types.size)) = true)
    (hfit : ((fn.params.toList.all (okT C.prog n)) && fitsAll C.prog n fn.params.toList ss && capsB C.prog fn.params.toList caps) = true)
    (hs : ∀ ds : List (DataW H), ds.length = fn.params.toList.length → s.fn H ds = { results := [.lit (.bool true)], args := ds })
    (hlaw : SpecOk C.prog f (specOf (cLaw ss caps))) :
    ReturnsInHanded {} C os f .any (s.pre6 enc C.prog fn [] false) (s.post enc C.prog fn false true false false) := by
  refine returnsInHanded_of_change_sized (C := C) own started noInit hfn witness ?_
  intro W base args ds gs before hval hW _ hsz _
  have hW' := hW
  obtain ⟨p, q, hA, hV, rfl, _, _⟩ := hW
  rw [hvars] at hV
  obtain ⟨rfl, rfl⟩ : gs = [] ∧ q = [] := by
    cases gs with
    | nil => exact ⟨rfl, hV⟩
    | cons g gs => exact hV.elim
  have hlen : ds.length = fn.params.toList.length := by
    have : ∀ {ts : List TypeId} {vs : List Value} {ds : List (DataW H)} {p : List MemPlace}, DataW.TrodAll enc C.prog W 0 (fun _ => true) true ts vs ds p → ds.length = ts.length := by
      intro ts
      induction ts with
      | nil => intro vs ds p h; obtain ⟨_, rfl, _⟩ := trodAll_nil h; rfl
      | cons t ts ih => intro vs ds p h; obtain ⟨_, _, _, _, _, _, _, rfl, _, _, h2⟩ := trodAll_cons h; simp [ih h2]
    exact this hA
  have hval' : ∀ (j : Nat) t v, fn.params.toList[j]? = some t → args.toList[j]? = some v → Value.okWide C.prog W .any base t v := fun j t v h1 h2 => hval j t v (by simpa using h1) (by simpa using h2)
  refine (law_calls hlaw hA hval' (fun x hx => ?_) hfit).mono fun e W' ⟨he, bel⟩ => ?_
  · rw [List.append_nil, hplain, List.append_nil] at hsz
    have := List.all_eq_true.1 hsz x hx
    simpa using this
  · subst he
    obtain ⟨rt, hrt, hu⟩ : ∃ rt, fn.resultTypes.toList = [rt] ∧ C.prog.underlying rt = some .bool := by
      match h : fn.resultTypes.toList with
      | [] => rw [h] at hres; cases hres
      | [rt] => rw [h] at hres; simp at hres; exact ⟨rt, rfl, hres⟩
      | _ :: _ :: _ => rw [h] at hres; simp at hres
    have hsize : fn.resultTypes.size = 1 := by rw [← Array.length_toList, hrt]; rfl
    refine ⟨_, rfl, ds, [], _, [], p, [], hW', ?_, ?_, ?_, bel.frame _, fun h => by cases h⟩
    · rw [List.append_nil, hs ds hlen, hrt, hsize]
      exact trodAll_mk1 (shut_bool hu _)
    · rw [List.append_nil, hs ds hlen]
      exact trodAll_back hlaid bel hA hts
    · rw [List.append_nil, hs ds hlen, hvars]
      rfl

end Go.AM
