/-
  AM, part 12: regions that draw their order: what is asked of them ahead of the run; the run in the text's order.
-/
import Derived.Test.YtelcedajmnblbaaAm11
set_option linter.unusedVariables false
set_option linter.unusedSimpArgs false
namespace Go.AM

/-! ### who comes before whom -/
def maskOf (acc : List Nat) (o : Oper) : Nat := (edges o).foldl (fun m e => m ||| 2 ^ e ||| (acc[e]?).getD 0) 0

theorem masks_eq : ∀ (os : List Oper) (acc : List Nat), ∃ l, masks os acc = acc ++ l ∧ l.length = os.length
  | [], acc => ⟨[], by simp [masks], rfl⟩
  | o :: os, acc => by
    obtain ⟨l, h1, h2⟩ := masks_eq os (acc ++ [maskOf acc o])
    exact ⟨maskOf acc o :: l, by rw [masks]; exact h1.trans (by simp), by simp [h2]⟩

theorem masks_get : ∀ (os : List Oper) (acc : List Nat) (k : Nat) (o : Oper), os[k]? = some o → (masks os acc)[acc.length + k]? = some (maskOf ((masks os acc).take (acc.length + k)) o)
  | [], _, _, _, h => by simp at h
  | x :: os, acc, 0, o, h => by
    simp at h; subst h
    obtain ⟨l, h1, h2⟩ := masks_eq os (acc ++ [maskOf acc x])
    have e : masks (x :: os) acc = acc ++ maskOf acc x :: l := by rw [masks]; exact h1.trans (by simp)
    rw [e]; simp
  | x :: os, acc, k + 1, o, h => by
    have := masks_get os (acc ++ [maskOf acc x]) k o (by simpa using h)
    have e : masks (x :: os) acc = masks os (acc ++ [maskOf acc x]) := rfl
    rw [e]
    have e2 : (acc ++ [maskOf acc x]).length + k = acc.length + (k + 1) := by simp; omega
    rw [← e2]; exact this

theorem fold_bit (acc : List Nat) (i : Nat) : ∀ (es : List Nat) (m : Nat), (es.foldl (fun m e => m ||| 2 ^ e ||| (acc[e]?).getD 0) m).testBit i = true →
    m.testBit i = true ∨ ∃ e ∈ es, i = e ∨ ((acc[e]?).getD 0).testBit i = true
  | [], m, h => .inl h
  | e :: es, m, h => by
    rcases fold_bit acc i es _ h with h1 | ⟨e', he', h1⟩
    · simp only [Nat.testBit_or, Bool.or_eq_true, Nat.testBit_two_pow, decide_eq_true_eq] at h1
      rcases h1 with (h1 | h1) | h1
      · exact .inl h1
      · exact .inr ⟨e, by simp, .inl h1.symm⟩
      · exact .inr ⟨e, by simp, .inr h1⟩
    · exact .inr ⟨e', by simp [he'], h1⟩

theorem before_closed {L : List Oper} (hstat : ∀ j o, L[j]? = some o → ∀ e ∈ edges o, e < j) {S : Nat → Prop} (hS : ∀ i o, L[i]? = some o → S i → ∀ e ∈ edges o, S e) {i : Nat} :
    ∀ (j : Nat) (o : Oper), L[j]? = some o → (∀ e ∈ edges o, S e) → isBefore (masks L []) i j = true → S i := by
  intro j
  induction j using Nat.strongRecOn with
  | _ j ih =>
    intro o ho he hb
    have hm := masks_get L [] j o ho
    simp only [List.length_nil, Nat.zero_add] at hm
    unfold isBefore at hb
    rw [hm, Option.getD_some] at hb
    rcases fold_bit _ i _ _ hb with h1 | ⟨e, hee, h1⟩
    · simp at h1
    · rcases h1 with rfl | h1
      · exact he _ hee
      · have hlt := hstat j o ho e hee
        have hjl := (List.getElem?_eq_some_iff.1 ho).1
        have hoe : L[e]? = some L[e] := by simp
        rw [List.getElem?_take, if_pos hlt] at h1
        exact ih e hlt L[e] hoe (hS e L[e] hoe (he e hee)) h1

theorem mem_edges {o : Oper} {x : Nat} : x ∈ edges o ↔ ∃ e ∈ o.after, Region.binds .any e = true ∧ e.on = x := by
  unfold edges
  rw [List.mem_filterMap]
  constructor
  · rintro ⟨e, he, h⟩
    split at h
    · rename_i hb; exact ⟨e, by simpa using he, hb, Option.some.inj h⟩
    · cases h
  · rintro ⟨e, he, hb, rfl⟩
    exact ⟨e, by simpa using he, by rw [if_pos hb]⟩

structure DrawFacts (L : List Oper) : Prop where
  edge : ∀ (j : Nat) (o : Oper), L[j]? = some o → ∀ e ∈ edges o, e < j
  sel : ∀ (j : Nat) (o : Oper), L[j]? = some o → ∀ (cs : Array SelectCase) (b : Bool), o.op ≠ .select cs b
  uniq : ∀ (i j : Nat) (oi oj : Oper) (d : Nat), L[i]? = some oi → L[j]? = some oj → i ≠ j → oi.dst = some d → oj.dst ≠ some d
  look : ∀ (i j : Nat) (oi oj : Oper) (d : Nat), L[i]? = some oi → L[j]? = some oj → i ≠ j → oi.dst = some d → d ∈ looks L oj → ordered (masks L []) i j = true

theorem drawFacts {L : List Oper} (h : drawOk L = true) : DrawFacts L := by
  unfold drawOk at h
  simp only [List.all_eq_true, List.mem_range] at h
  have at_ : ∀ (j : Nat) (o : Oper), L[j]? = some o → (edges o).all (fun e => decide (e < j)) = true ∧ (match o.op with | .select .. => false | _ => true) = true ∧
      ∀ i, i < L.length → ∀ oi, L[i]? = some oi → pairOk L (masks L []) i j oi o = true := by
    intro j o ho
    have := h j (List.getElem?_eq_some_iff.1 ho).1
    rw [ho] at this
    simp only [Bool.and_eq_true] at this
    refine ⟨this.1.1, this.1.2, fun i hi oi hoi => ?_⟩
    have h2 := this.2
    rw [List.all_eq_true] at h2
    have := h2 i (List.mem_range.2 hi)
    rw [hoi] at this
    exact this
  refine ⟨fun j o ho e he => ?_, fun j o ho cs b hop => ?_, fun i j oi oj d hi hj hne hd hd' => ?_, fun i j oi oj d hi hj hne hd hl => ?_⟩
  · have := List.all_eq_true.1 (at_ j o ho).1 e he
    simpa using this
  · have := (at_ j o ho).2.1
    rw [hop] at this
    cases this
  · have := (at_ j oj hj).2.2 i (List.getElem?_eq_some_iff.1 hi).1 oi hi
    unfold pairOk at this
    rw [hd] at this
    simp [hne, hd'] at this
  · have := (at_ j oj hj).2.2 i (List.getElem?_eq_some_iff.1 hi).1 oi hi
    unfold pairOk at this
    rw [hd] at this
    simp [hne, hl] at this
    exact this.2

/-! ### operations and what they look at -/
theorem evs_congr {t t' : T} : ∀ {l : List Operand}, (∀ x ∈ l, ev t x = ev t' x) → evs t l = evs t' l
  | [], _ => rfl
  | x :: l, h => by simp only [evs]; rw [h x (by simp), evs_congr (l := l) fun y hy => h y (by simp [hy])]
theorem evp_congr {t t' : T} : ∀ {l : List (Nat × Operand)}, (∀ x ∈ l, ev t x.2 = ev t' x.2) → evp t l = evp t' l
  | [], _ => rfl
  | (i, x) :: l, h => by simp only [evp]; rw [h (i, x) (by simp), evp_congr (l := l) fun y hy => h y (by simp [hy])]
theorem evo_congr {t t' : T} {x : Option Operand} (h : ∀ y, x = some y → ev t y = ev t' y) : evo t x = evo t' x := by
  cases x with
  | none => rfl
  | some y => simp only [evo]; rw [h y rfl]

theorem afall_congr {E : Env} {t t' : T} {o : Oper} (hs : ∀ cs b, o.op ≠ .select cs b) (h : ∀ x ∈ o.op.operands, ev t x = ev t' x) : afall E t o = afall E t' o := by
  unfold afall
  have h1 : o.op.operands.toList.all (flatAt t) = o.op.operands.toList.all (flatAt t') := by
    have hf : ∀ x ∈ o.op.operands, flatAt t x = flatAt t' x := fun x hx => by unfold flatAt; rw [h x hx]
    rw [Bool.eq_iff_iff, List.all_eq_true, List.all_eq_true]
    constructor <;> intro hh x hx
    · rw [← hf x (by simpa using hx)]; exact hh x hx
    · rw [hf x (by simpa using hx)]; exact hh x hx
  have h2 : execOp (fun x => (ev t x).getD undef) o = execOp (fun x => (ev t' x).getD undef) o := execOp_congr o hs fun x hx => by rw [h x hx]
  rw [h1, h2]

theorem aop_congr {E : Env} {t t' : T} {h : AH} {o : Oper} (hx : ∀ x ∈ o.op.operands, ev t x = ev t' x) : aop E t h o = aop E t' h o := by
  obtain ⟨dst, op, type, pos, after, guard⟩ := o
  have fall : ∀ {o : Oper}, (∀ cs b, o.op ≠ .select cs b) → (∀ x ∈ o.op.operands, ev t x = ev t' x) → afall E t o = afall E t' o := afall_congr
  cases op <;> simp only [Op.operands] at hx <;> simp only [aop]
  case move x => rw [hx x (by simp)]
  case assign x => rw [hx x (by simp)]
  case pick c a b => rw [hx c (by simp), hx a (by simp), hx b (by simp)]
  case box elem x => rw [hx x (by simp)]
  case build ty ps => rw [evp_congr fun x hx' => hx x.2 (by simp; exact ⟨x.1, by simpa using hx'⟩)]
  case buildSlice ty n ps => rw [evp_congr fun x hx' => hx x.2 (by simp; exact ⟨x.1, by simpa using hx'⟩)]
  case load ty x => rw [hx x (by simp)]
  case store ty x y => rw [hx x (by simp), hx y (by simp)]
  case nilCheck x => rw [hx x (by simp)]
  case binOp op ty x y yt =>
    rw [hx x (by simp), hx y (by simp), fall (o := ⟨dst, .binOp op ty x y yt, type, pos, after, guard⟩) (fun cs b h => by cases h) (by simpa [Op.operands] using hx)]
  case unOp op ty x => rw [fall (o := ⟨dst, .unOp op ty x, type, pos, after, guard⟩) (fun cs b h => by cases h) (by simpa [Op.operands] using hx)]
  case convert s d x => rw [fall (o := ⟨dst, .convert s d x, type, pos, after, guard⟩) (fun cs b h => by cases h) (by simpa [Op.operands] using hx)]
  case makeFunc fn f c =>
    rw [evs_congr (l := f.toList) fun x hx' => hx x (by simp; exact .inl (by simpa using hx')), evs_congr (l := c.toList) fun x hx' => hx x (by simp; exact .inr (by simpa using hx'))]
  case makeSlice ty l c => rw [hx l (by simp), hx c (by simp)]
  case slice ty x lo hi mx =>
    rw [hx x (by simp), evo_congr (x := lo) fun y hy => hx y (by simp [hy]), evo_congr (x := hi) fun y hy => hx y (by simp [hy]), evo_congr (x := mx) fun y hy => hx y (by simp [hy])]
  case fieldAddr s x f => rw [hx x (by simp)]
  case field s x f => rw [hx x (by simp)]
  case indexAddr ty x i => rw [hx x (by simp), hx i (by simp)]
  case index ty x i =>
    rw [hx x (by simp), hx i (by simp), fall (o := ⟨dst, .index ty x i, type, pos, after, guard⟩) (fun cs b h => by cases h) (by simpa [Op.operands] using hx)]
  case extract x i => rw [hx x (by simp)]
  case call c =>
    obtain ⟨callee, args, tys⟩ := c
    cases callee <;> simp only
    rename_i b
    rw [evs_congr (l := args.toList) fun x hx' => hx x (by simp [Call.operands]; simpa using hx'),
      fall (o := ⟨dst, .call ⟨.builtin b, args, tys⟩, type, pos, after, guard⟩) (fun cs b h => by cases h) (by simpa [Op.operands] using hx)]

theorem astep_congr {E : Env} {r : Rec} {t t' : T} {h : AH} {o : Oper} (hx : ∀ x ∈ o.op.operands, ev t x = ev t' x) : astep E r o t h = astep E r o t' h := by
  unfold astep
  split
  · rename_i f args tys hop
    have hx' := hx
    rw [hop] at hx'
    simp only [Op.operands, Call.operands] at hx'
    rw [hx' f (by simp), evs_congr (l := args.toList) fun x h' => hx' x (by simp; exact .inr (by simpa using h')), afall_congr (fun cs b h => by rw [hop] at h; cases h) hx]
  · rw [aop_congr hx]

theorem same_indep {h h' : AH} {x : Option Value} {v : Value} (hs : same h x = some (v, h')) : h' = h ∧ ∀ h₂, same h₂ x = some (v, h₂) := by
  obtain ⟨rfl, rfl⟩ := same_some hs
  exact ⟨rfl, fun _ => rfl⟩

theorem same_none {h : AH} {x : Option Value} (h0 : same h x = none) (h₂ : AH) : same h₂ x = none := by
  unfold same at h0 ⊢
  split at h0
  · cases h0
  · rfl

theorem orElse_indep {α : Type} {a : Option α} {f : Unit → Option α} {x : α} (h : orElse a f = some x) : (a = some x) ∨ (a = none ∧ f () = some x) := orElse_some h

theorem nonheap_indep {E : Env} {r : Rec} {t : T} {h h' : AH} {o : Oper} {v : Value} (hn : heapOp o = false) (hs : astep E r o t h = .ret (v, h')) :
    h' = h ∧ ∀ h₂, astep E r o t h₂ = .ret (v, h₂) := by
  have key : ∀ {o : Oper}, (∀ f a ty, o.op ≠ .call ⟨.value f, a, ty⟩) → (∀ h, astep E r o t h = .ofOption (aop E t h o)) := by
    intro o hne h
    unfold astep
    split
    · rename_i f a ty hop; exact absurd hop (hne f a ty)
    · rfl
  have fin : ∀ {o : Oper}, (∀ f a ty, o.op ≠ .call ⟨.value f, a, ty⟩) → astep E r o t h = .ret (v, h') → (aop E t h o = some (v, h') → h' = h ∧ ∀ h₂, aop E t h₂ o = some (v, h₂)) →
      h' = h ∧ ∀ h₂, astep E r o t h₂ = .ret (v, h₂) := by
    intro o hne hs hi
    rw [key hne] at hs
    cases ha : aop E t h o with
    | none => rw [ha] at hs; cases hs
    | some x =>
      rw [ha] at hs
      simp only [Res.ofOption, Res.ret.injEq] at hs
      subst hs
      obtain ⟨h1, h2⟩ := hi ha
      exact ⟨h1, fun h₂ => by rw [key hne, h2 h₂]; rfl⟩
  obtain ⟨dst, op, type, pos, after, guard⟩ := o
  cases op <;> simp only [heapOp, Bool.true_eq_false] at hn <;> try (cases hn; done)
  case move x => exact fin (fun _ _ _ h => by cases h) hs fun ha => by simp only [aop] at ha ⊢; exact same_indep ha
  case assign x => exact fin (fun _ _ _ h => by cases h) hs fun ha => by simp only [aop] at ha ⊢; exact same_indep ha
  case pick c a b => exact fin (fun _ _ _ h => by cases h) hs fun ha => by simp only [aop] at ha ⊢; split at ha <;> first | exact same_indep ha | cases ha
  case build => exact fin (fun _ _ _ h => by cases h) hs fun ha => by simp only [aop] at ha ⊢; split at ha <;> first | exact same_indep ha | cases ha
  case nilCheck =>
    refine fin (fun _ _ _ h => by cases h) hs fun ha => ?_
    simp only [aop] at ha ⊢
    split at ha
    · simp only [Option.some.injEq, Prod.mk.injEq] at ha; exact ⟨ha.2.symm, fun h₂ => by rw [ha.1]⟩
    · cases ha
  case binOp =>
    refine fin (fun _ _ _ h => by cases h) hs fun ha => ?_
    simp only [aop] at ha ⊢
    split at ha
    · rcases orElse_indep ha with h1 | ⟨h0, h1⟩
      · obtain ⟨h2, h3⟩ := same_indep h1
        exact ⟨h2, fun h₂ => by rw [h3 h₂]; rfl⟩
      · obtain ⟨h2, h3⟩ := same_indep h1
        refine ⟨h2, fun h₂ => ?_⟩
        rw [same_none h0 h₂]; exact h3 h₂
    · cases ha
  case unOp => exact fin (fun _ _ _ h => by cases h) hs fun ha => by simp only [aop] at ha ⊢; exact same_indep ha
  case convert => exact fin (fun _ _ _ h => by cases h) hs fun ha => by simp only [aop] at ha ⊢; exact same_indep ha
  case makeFunc =>
    refine fin (fun _ _ _ h => by cases h) hs fun ha => ?_
    simp only [aop] at ha ⊢
    split at ha
    · simp only [Option.some.injEq, Prod.mk.injEq] at ha; exact ⟨ha.2.symm, fun h₂ => by rw [ha.1]⟩
    · cases ha
  case fieldAddr => exact fin (fun _ _ _ h => by cases h) hs fun ha => by simp only [aop] at ha ⊢; split at ha <;> first | exact same_indep ha | cases ha
  case field => exact fin (fun _ _ _ h => by cases h) hs fun ha => by simp only [aop] at ha ⊢; split at ha <;> first | exact same_indep ha | cases ha
  case indexAddr => exact fin (fun _ _ _ h => by cases h) hs fun ha => by simp only [aop] at ha ⊢; split at ha <;> first | exact same_indep ha | cases ha
  case index =>
    refine fin (fun _ _ _ h => by cases h) hs fun ha => ?_
    simp only [aop] at ha ⊢
    split at ha
    · rcases orElse_indep ha with h1 | ⟨h0, h1⟩
      · obtain ⟨h2, h3⟩ := same_indep h1
        exact ⟨h2, fun h₂ => by rw [h3 h₂]; rfl⟩
      · obtain ⟨h2, h3⟩ := same_indep h1
        refine ⟨h2, fun h₂ => ?_⟩
        rw [same_none h0 h₂]; exact h3 h₂
    · cases ha
  case extract => exact fin (fun _ _ _ h => by cases h) hs fun ha => by simp only [aop] at ha ⊢; split at ha <;> first | exact same_indep ha | cases ha
  case call c =>
    obtain ⟨callee, args, tys⟩ := c
    cases callee <;> simp only at hn <;> try (cases hn; done)
    rename_i b
    have hb1 : b ≠ .append := fun e => by subst e; cases hn
    have hb2 : b ≠ .copy := fun e => by subst e; cases hn
    refine fin (fun _ _ _ h => by cases h) hs fun ha => ?_
    simp only [aop] at ha ⊢
    have bi : ∀ {tys : List TypeId} {vs : List Value} {h : AH}, (∃ v, ∀ h₂, abuiltin E h₂ b tys vs = some (v, h₂)) ∨ (∀ h₂, abuiltin E h₂ b tys vs = none) := by
      intro tys vs h
      unfold abuiltin
      split
      · split
        · exact .inl ⟨_, fun _ => rfl⟩
        · exact .inr fun _ => rfl
      · rename_i k x r
        cases minList x r k with
        | none => exact .inr fun _ => rfl
        | some m => exact .inl ⟨_, fun _ => rfl⟩
      · rename_i k x r
        cases maxList x r k with
        | none => exact .inr fun _ => rfl
        | some m => exact .inl ⟨_, fun _ => rfl⟩
      · exact absurd rfl hb1
      · exact absurd rfl hb2
      · exact .inr fun _ => rfl
    split at ha
    · rename_i vs _
      rcases bi (tys := tys.toList) (vs := vs) (h := h) with ⟨u, hu⟩ | hu
      · rw [hu h] at ha
        have : (u, h) = (v, h') := Option.some.inj ha
        simp only [Prod.mk.injEq] at this
        exact ⟨this.2.symm, fun h₂ => by rw [hu h₂, this.1]; rfl⟩
      · rw [hu h] at ha
        obtain ⟨h2, h3⟩ := same_indep ha
        exact ⟨h2, fun h₂ => by rw [hu h₂]; exact h3 h₂⟩
    · cases ha

/-! ### the run in the text's order -/
structure TStep (E : Env) (r : Rec) (N : Nat) (L : List Oper) (tt : Nat → T) (hh : Nat → AH) (vv : Nat → Value) (j : Nat) (o : Oper) : Prop where
  put : tt (j + 1) = (tt j).put N o.dst (vv j)
  run : (wantedA L (tt j) o = true ∧ (heapOp o && !barrier L (masks L []) j) = true ∧ ∃ h', astep E r o (tt j) (hh j).shut = .ret (vv j, h') ∧ hh (j + 1) = h'.reopen (hh j).lim) ∨
    (wantedA L (tt j) o = true ∧ (heapOp o && !barrier L (masks L []) j) = false ∧ astep E r o (tt j) (hh j) = .ret (vv j, hh (j + 1))) ∨
    (wantedA L (tt j) o = false ∧ vv j = undef ∧ hh (j + 1) = hh j)

theorem trace_of {E : Env} {r : Rec} {N : Nat} {L : List Oper} {Q : T × AH → Prop} : ∀ (os : List Oper) (j : Nat) (t : T) (h : AH), L.drop j = os → j ≤ L.length → (aopsD E r N L (masks L []) j os t h).Sat Q →
    ∃ (tt : Nat → T) (hh : Nat → AH) (vv : Nat → Value), tt j = t ∧ hh j = h ∧ (∀ i o, j ≤ i → L[i]? = some o → TStep E r N L tt hh vv i o) ∧ Q (tt L.length, hh L.length)
  | [], j, t, h, hd, hj, hs => by
    have : j = L.length := by
      have := List.drop_eq_nil_iff.1 hd
      omega
    subst this
    exact ⟨fun _ => t, fun _ => h, fun _ => undef, rfl, rfl, fun i o hi ho => by have := (List.getElem?_eq_some_iff.1 ho).1; omega, hs⟩
  | o :: os, j, t, h, hd, hj, hs => by
    have hlt : j < L.length := by
      rcases Nat.lt_or_ge j L.length with h1 | h1
      · exact h1
      · rw [List.drop_eq_nil_of_le h1] at hd; cases hd
    have ho : L[j]? = some o := by
      have : (L.drop j)[0]? = some o := by rw [hd]; rfl
      simpa using this
    have hd' : L.drop (j + 1) = os := by
      have : (L.drop j).drop 1 = os := by rw [hd]; rfl
      simpa [List.drop_drop] using this
    have build : ∀ (v : Value) (h₁ : AH), (aopsD E r N L (masks L []) (j + 1) os (t.put N o.dst v) h₁).Sat Q →
        ((wantedA L t o = true ∧ (heapOp o && !barrier L (masks L []) j) = true ∧ ∃ h', astep E r o t h.shut = .ret (v, h') ∧ h₁ = h'.reopen h.lim) ∨
          (wantedA L t o = true ∧ (heapOp o && !barrier L (masks L []) j) = false ∧ astep E r o t h = .ret (v, h₁)) ∨
          (wantedA L t o = false ∧ v = undef ∧ h₁ = h)) →
        ∃ (tt : Nat → T) (hh : Nat → AH) (vv : Nat → Value), tt j = t ∧ hh j = h ∧ (∀ i o, j ≤ i → L[i]? = some o → TStep E r N L tt hh vv i o) ∧ Q (tt L.length, hh L.length) := by
      intro v h₁ hs' hrun
      obtain ⟨tt, hh, vv, e1, e2, e3, e4⟩ := trace_of os (j + 1) _ _ hd' hlt hs'
      refine ⟨fun i => if i ≤ j then t else tt i, fun i => if i ≤ j then h else hh i, fun i => if i ≤ j then v else vv i, by simp, by simp, fun i o' hi ho' => ?_, ?_⟩
      · by_cases hij : i = j
        · subst hij
          rw [ho] at ho'
          obtain rfl := Option.some.inj ho'
          have h1 : ¬ i + 1 ≤ i := by omega
          refine ⟨by simp only [Nat.le_refl, if_true, h1, if_false, e1], ?_⟩
          simp only [Nat.le_refl, if_true, h1, if_false, e2]
          exact hrun
        · have h1 : ¬ i ≤ j := by omega
          have h2 : ¬ i + 1 ≤ j := by omega
          have := e3 i o' (by omega) ho'
          exact ⟨by simp only [h1, h2, if_false]; exact this.put, by simp only [h1, h2, if_false]; exact this.run⟩
      · have h1 : ¬ L.length ≤ j := by omega
        simp only [h1, if_false]; exact e4
    simp only [aopsD] at hs
    split at hs
    · rename_i hw
      split at hs
      · rename_i hb
        split at hs
        · rename_i x hx
          exact build x.1 (x.2.reopen h.lim) hs (.inl ⟨hw, hb, x.2, hx, rfl⟩)
        · exact hs.elim
      · rename_i hb
        split at hs
        · rename_i x hx
          exact build x.1 x.2 hs (.inr (.inl ⟨hw, by simpa using hb, hx⟩))
        · exact hs.elim
    · rename_i hw
      exact build undef h hs (.inr (.inr ⟨by simpa using hw, rfl, rfl⟩))

end Go.AM
