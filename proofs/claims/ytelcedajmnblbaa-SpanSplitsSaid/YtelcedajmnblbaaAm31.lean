/-
  AM, part 31: a contract, out of a run in a memory of its own.
-/
import Derived.Test.YtelcedajmnblbaaAm30
set_option linter.unusedVariables false
set_option linter.unusedSimpArgs false
namespace Go.AM

def norms : List Sh → List D → List D
  | [], _ => []
  | s :: ss, ds => s.norm (ds.headD default) :: norms ss ds.tail

def OutOk (h₁ : AH) : List Nat → List Sh → List Value → List D → Prop
  | _, [], [], _ => True
  | used, s :: ss, u :: us, ds => s.dec h₁ u = some (s.norm (ds.headD default)) ∧ ∃ used', takes h₁ used s u = some used' ∧ OutOk h₁ used' ss us ds.tail
  | _, _, _, _ => False

def Canon (P : Program) (g : FuncId) (c : Con) : Prop :=
  ∀ ds, c.ok ds = true → norms c.ins ds = ds → ACalls P g (cins c.ins ds AH.empty).1 (cins c.ins ds AH.empty).2 (fun v h₁ => ∃ us, v = tup1 us ∧ OutOk h₁ [] c.outs us (c.f ds))

theorem decK_normal {k : K} {v : Value} {d : D} (h : decK k v = some d) : normK k d = d := by
  unfold decK at h
  split at h
  · split at h
    · obtain rfl := Option.some.inj h; rfl
    · cases h
  · obtain rfl := Option.some.inj h; rfl
  · obtain rfl := Option.some.inj h; rfl
  · cases h
theorem decL_normal : ∀ {ks : List K} {vs : List Value} {ds : List D}, decL ks vs = some ds → normL ks ds = ds
  | [], [], ds, h => by simp only [decL, Option.some.injEq] at h; subst h; rfl
  | k :: ks, v :: vs, ds, h => by
    simp only [decL] at h
    split at h
    · rename_i d ds' h1 h2
      obtain rfl := Option.some.inj h
      simp only [normL, List.headD_cons, List.tail_cons, decK_normal h1, decL_normal h2]
    · cases h
  | [], _ :: _, _, h => by cases h
  | _ :: _, [], _, h => by cases h
theorem decR_normal {ks : List K} : ∀ {n : Nat} {l : List Value} {rs : List D}, decR ks n l = some rs → (rs.map fun e => D.l (normL ks e.toL)) = rs
  | 0, [], rs, h => by simp only [decR, Option.some.injEq] at h; subst h; rfl
  | 0, _ :: _, rs, h => by cases h
  | n + 1, l, rs, h => by
    simp only [decR] at h
    split at h
    · rename_i e r h1 h2
      obtain rfl := Option.some.inj h
      simp only [List.map_cons, D.toL_l, decL_normal h1, decR_normal h2]
    · cases h
theorem dec_normal {h : AH} {s : Sh} {v : Value} {d : D} (hd : s.dec h v = some d) : s.norm d = d := by
  cases s with
  | k kd => exact decK_normal hd
  | agg ks =>
    cases v <;> simp only [Sh.dec] at hd <;> try (cases hd; done)
    obtain ⟨ds, h1, rfl⟩ := Option.map_eq_some_iff.1 hd
    simp only [Sh.norm, D.toL_l, decL_normal h1]
  | row ks =>
    cases v <;> simp only [Sh.dec] at hd <;> try (cases hd; done)
    split at hd
    · obtain ⟨l, h1, h2⟩ := Option.bind_eq_some_iff.1 hd
      obtain ⟨rs, h3, rfl⟩ := Option.map_eq_some_iff.1 h2
      simp only [Sh.norm, D.toL_l, decR_normal h3]
    · cases hd

theorem decs_normal {h : AH} : ∀ {ss : List Sh} {vs : List Value} {ds : List D}, decs h ss vs = some ds → norms ss ds = ds
  | [], [], ds, hd => by simp only [decs, Option.some.injEq] at hd; subst hd; rfl
  | s :: ss, v :: vs, ds, hd => by
    simp only [decs] at hd
    split at hd
    · rename_i d ds' h1 h2
      obtain rfl := Option.some.inj hd
      simp only [norms, List.headD_cons, List.tail_cons, dec_normal h1, decs_normal h2]
    · cases hd
  | [], _ :: _, _, hd => by cases hd
  | _ :: _, [], _, hd => by cases hd

theorem cins_rel {ι : Inj} {h : AH} {w : World} (hr : HRel ι h w) : ∀ {ss : List Sh} {vs vs' : List Value} {ds : List D} {ι₀ : Inj} {h₀ : AH}, RoRel ι₀ h₀ w → LRel ι vs vs' → decs h ss vs = some ds →
    ∃ ι₁, ι₀.le ι₁ ∧ RoRel ι₁ (cins ss ds h₀).2 w ∧ LRel ι₁ (cins ss ds h₀).1 vs'
  | [], [], vs', ds, ι₀, h₀, h0, hl, hd => by
    have : vs' = [] := List.eq_nil_of_length_eq_zero (by have := hl.1; simpa using this.symm)
    subst this
    exact ⟨ι₀, Inj.le_refl _, h0, LRel.nil ι₀⟩
  | s :: ss, v :: vs, vs', ds, ι₀, h₀, h0, hl, hd => by
    match vs', hl with
    | [], hl => have := hl.1; simp at this
    | v' :: vs', hl =>
      simp only [decs] at hd
      split at hd
      · rename_i d ds' h1 h2
        obtain rfl := Option.some.inj hd
        obtain ⟨ι₁, l1, r1, c1⟩ := cin_rel hr h0 hl.tail.1 h1
        obtain ⟨ι₂, l2, r2, c2⟩ := cins_rel hr r1 hl.tail.2 h2
        exact ⟨ι₂, Inj.le_trans l1 l2, r2, c2.cons (c1.mono l2)⟩
      · cases hd
  | [], _ :: _, _, _, _, _, _, _, hd => by cases hd
  | _ :: _, [], _, _, _, _, _, _, hd => by cases hd

theorem outs_rel {ι ι₁ : Inj} {h h₁ : AH} {w w' : World} (hr₁ : HRel ι₁ h₁ w') (hfresh : ∀ b I, ι₁ b = some I → (h₁.b b).wr = true → w.heap.size ≤ I.B) :
    ∀ {ss : List Sh} {us us' : List Value} {ds : List D} {used : List Nat} {ι₂ : Inj} {h₂ : AH}, Into ι h w ι₁ h₁ w' used ι₂ h₂ → LRel ι₁ us us' → OutOk h₁ used ss us ds →
      ∃ ι₃ used', ι₂.le ι₃ ∧ Into ι h w ι₁ h₁ w' used' ι₃ (encs ss ds h₂).2 ∧ LRel ι₃ (encs ss ds h₂).1 us'
  | [], [], us', ds, used, ι₂, h₂, hi, hl, ho => by
    have : us' = [] := List.eq_nil_of_length_eq_zero (by have := hl.1; simpa using this.symm)
    subst this
    exact ⟨ι₂, used, Inj.le_refl _, hi, LRel.nil _⟩
  | s :: ss, u :: us, us', ds, used, ι₂, h₂, hi, hl, ho => by
    match us', hl with
    | [], hl => have := hl.1; simp at this
    | u' :: us', hl =>
      obtain ⟨hd, used', ht, ho'⟩ := ho
      obtain ⟨ι₃, l3, i3, v3⟩ := out_rel hr₁ hfresh hi hl.tail.1 hd ht
      obtain ⟨ι₄, used'', l4, i4, v4⟩ := outs_rel hr₁ hfresh i3 hl.tail.2 ho'
      exact ⟨ι₄, used'', Inj.le_trans l3 l4, i4, v4.cons (v3.mono l4)⟩
  | [], _ :: _, _, _, _, _, _, _, _, ho => ho.elim
  | _ :: _, [], _, _, _, _, _, _, _, ho => ho.elim

theorem tup1_rel {ι : Inj} {us : List Value} {v' : Value} (h : VRel ι (tup1 us) v') : ∃ us', LRel ι us us' ∧ ∀ {ι' : Inj} {vs : List Value}, LRel ι' vs us' → VRel ι' (tup1 vs) v' := by
  have tup : ∀ {us : List Value}, us.length ≠ 1 → VRel ι (.tuple us.toArray) v' → ∃ us', LRel ι us us' ∧ ∀ {ι' : Inj} {vs : List Value}, LRel ι' vs us' → VRel ι' (tup1 vs) v' := by
    intro us hne h
    cases h with
    | tuple hs h2 =>
      rename_i c'
      refine ⟨c'.toList, ⟨by simpa using hs, fun i x x' q1 q2 => h2 i x x' (by simpa using q1) (by simpa using q2)⟩, fun {ι' vs} hl => ?_⟩
      have hlen : vs.length ≠ 1 := by have := hl.1; simp at this hs; omega
      have e : tup1 vs = .tuple vs.toArray := by
        match vs with
        | [] => rfl
        | [x] => simp at hlen
        | x :: y :: r => rfl
      rw [e]
      have : c' = c'.toList.toArray := by simp
      exact .tuple (by have := hl.1; simpa using this) (fun i x x' q1 q2 => hl.2 i x x' (by simpa using q1) (by simpa using q2))
  match us with
  | [] => exact tup (by simp) h
  | [u] =>
    refine ⟨[v'], (LRel.nil ι).cons h, fun {ι' vs} hl => ?_⟩
    match vs, hl with
    | [x], hl => exact hl.tail.1
    | [], hl => have := hl.1; simp at this
    | _ :: _ :: _, hl => have := hl.1; simp at this
  | u :: v :: r => exact tup (by simp) h

/-- the contract -/
theorem Canon.specOk {P : Program} {g : FuncId} {c : Con} (hent : Entered P g) (hc : Canon P g c) : SpecOk P g (specOf c) := by
  refine ⟨hent, fun args h v h' hs ι args' w hl hr => ?_⟩
  unfold specOf at hs
  split at hs
  case h_2 => cases hs
  rename_i ds hd
  split at hs
  case isFalse => cases hs
  rename_i hpre
  simp only [Option.some.injEq, Prod.mk.injEq] at hs
  obtain ⟨rfl, rfl⟩ := hs
  obtain ⟨ι₀, _, r0, l0⟩ := cins_rel hr (RoRel.empty w) hl hd
  refine Calls.mono (hc ds hpre (decs_normal hd) ι₀ args' w l0 r0.rel) ?_
  rintro e w' ⟨v₁, h₁, v', ι₁, ⟨us, rfl, hout⟩, rfl, hv, hr₁, ext⟩
  have nomut : ∀ b, (cins c.ins ds AH.empty).2.mut b = false := fun b => by simp [AH.mut, r0.ro b]
  have frame : ∀ B, B < w.heap.size → w'.heap[B]? = w.heap[B]? := fun B hB => ext.frame B hB fun b I _ hm => by rw [nomut] at hm; cases hm
  have hfresh : ∀ b I, ι₁ b = some I → (h₁.b b).wr = true → w.heap.size ≤ I.B := fun b I hb hw => by
    cases h0 : ι₀ b with
    | some J =>
      have := ext.wr b (r0.rel.lt h0) hw
      rw [r0.ro b] at this; cases this
    | none =>
      rcases ext.fresh b I hb h0 (wr_live hw) with q | ⟨b₀, I₀, _, hm, _⟩
      · exact q
      · rw [nomut] at hm; cases hm
  have start : Into ι h w ι₁ h₁ w' [] ι h := by
    refine ⟨⟨hr.fit, fun b I hb => ?_, fun b I hb => Nat.lt_of_lt_of_le (hr.inb b I hb) ext.size, hr.apart⟩, ⟨Inj.le_refl _, Nat.le_refl _, ext.size, rfl, fun _ _ h => h, fun _ _ h => h, (fun b I h1 h2 => by rw [h1] at h2; cases h2), (fun b I h1 h2 => by rw [h1] at h2; cases h2), fun B hB _ => frame B hB, ext.os, ext.tape, ext.output⟩, fun b I hb => .inl (hr.inb b I hb)⟩
    rw [frame _ (hr.inb b I hb)]
    exact hr.blk b I hb
  obtain ⟨us', hus, back⟩ := tup1_rel hv
  obtain ⟨ι₃, used', l3, i3, v3⟩ := outs_rel hr₁ hfresh start hus hout
  exact ⟨_, _, v', ι₃, ⟨rfl, rfl⟩, rfl, back v3, i3.rel, i3.ext⟩

end Go.AM
