/-
  AM, part 14: regions that draw their order: one operation comes up; all have come up.
-/
import Derived.Test.YtelcedajmnblbaaAm13
set_option linter.unusedVariables false
set_option linter.unusedSimpArgs false
namespace Go.AM

section
variable {E : Env} {r : Rec} {N : Nat} {ops : Array Oper} {t : T} {h : AH} {tt : Nat → T} {hh : Nat → AH} {vv : Nat → Value}
variable {ι₀ : Inj} {a₀ : Act} {w₀ : World} {listed : Array Bool} {a : Act} {w : World} {ι : Inj} {lo hi : Nat}

theorem listed_set {j i : Nat} (d : Bool) (hj : j < listed.size) : (listed.setIfInBounds j true).getD i d = if i = j then true else listed.getD i d := by
  by_cases e : i = j
  · subst e; simp [hj]
  · rw [getD_set_ne d (Ne.symm e), if_neg e]

theorem le_cut (hE : E.Fine) (hk : Keeps r) (c : DCtx E r N ops t h tt hh vv) (hfit : ∀ b I, ι₀ b = some I → b < h.n) (hle : ι₀.le ι) {j : Nat} (hj : j ≤ ops.size) : ι₀.le (ι.cut (hh j).n) := fun b I hb =>
  cut_some.2 ⟨Nat.lt_of_lt_of_le (hfit b I hb) (by have := c.n_mono hE hk (Nat.zero_le j) hj; rw [c.h0] at this; exact this), hle b I hb⟩

theorem slot_rel (hE : E.Fine) (hk : Keeps r) (c : DCtx E r N ops t h tt hh vv) (hT0 : TRel ι₀ N t a₀) (hfit : ∀ b I, ι₀ b = some I → b < h.n)
    (inv : DInv N ops t h hh vv ι₀ w₀ listed a w ι lo hi) {j : Nat} {o : Oper} (ho : ops[j]? = some o) (hun : listed.getD j false = false) (hed : ∀ e ∈ edges o, listed.getD e false = true)
    {d : Nat} (hd : d ∈ looks ops.toList o) : VRel (ι.cut (hh j).n) (tt j d) (a.tmps.getD d undef) := by
  have hj : j < ops.size := (Array.getElem?_eq_some_iff.1 ho).1
  have hle := le_cut hE hk c hfit inv.le0 (j := j) (by omega)
  obtain ⟨v1, v2⟩ := c.tt_val (d := d) j (by omega)
  by_cases hN : d < N
  · by_cases hw : ∃ (i : Nat) (o' : Oper), ops[i]? = some o' ∧ o'.dst = some d
    · obtain ⟨i, o', hi', hd'⟩ := hw
      have only : ∀ i₂ o₂, ops[i₂]? = some o₂ → o₂.dst = some d → i₂ = i := fun i₂ o₂ h2 hd2 => by
        by_cases e : i₂ = i
        · exact e
        · exact absurd hd' (c.facts.uniq i₂ i o₂ o' d (by simpa using h2) (by simpa using hi') e hd2)
      have base : listed.getD i false = false → ¬ i < j → VRel (ι.cut (hh j).n) (tt j d) (a.tmps.getD d undef) := fun hl hlt => by
        rw [v2 (.inl fun i₂ o₂ h2 hlt2 hd2 => by have := only i₂ o₂ h2 hd2; omega)]
        exact (inv.base d fun i₂ o₂ h2 hd2 => by rw [only i₂ o₂ h2 hd2]; exact hl).mono hle
      by_cases e : i = j
      · subst e; exact base hun (by omega)
      · have hord := c.facts.look i j o' o d (by simpa using hi') (by simpa using ho) e hd' hd
        rcases Nat.lt_or_ge i j with hlt | hge
        · have hl := before_listed c.facts inv.closed ho hed (ordered_lt hord hlt)
          rw [v1 i o' hi' hlt hd' hN]
          exact (inv.val i o' d hi' hl hd' hN).mono (cut_mono (Inj.le_refl ι) (c.n_mono hE hk (by omega) (by omega)))
        · refine base ?_ (by omega)
          cases hl : listed.getD i false with
          | false => rfl
          | true =>
            have := before_listed c.facts inv.closed hi' (inv.closed i o' hi' hl) (ordered_gt hord (by omega))
            rw [hun] at this; cases this
    · have hno : ∀ (i : Nat) (o' : Oper), ops[i]? = some o' → o'.dst ≠ some d := fun i o' h1 h2 => hw ⟨i, o', h1, h2⟩
      rw [v2 (.inl fun i o' h1 _ => hno i o' h1)]
      exact (inv.base d fun i o' h1 h2 => absurd h2 (hno i o' h1)).mono hle
  · rw [v2 (.inr (by omega))]
    have e1 : a.tmps.getD d undef = undef := by
      have : a.tmps.size ≤ d := by rw [inv.size]; omega
      simp [this]
    have e2 : a₀.tmps.getD d undef = undef := by
      have : a₀.tmps.size ≤ d := by rw [hT0.size]; omega
      simp [this]
    rw [e1, ← e2]
    exact (hT0.rel d).mono hle

theorem wanted_slot {ι : Inj} {t : T} {a : Act} {o : Oper} (hs : ∀ d ∈ looks ops.toList o, VRel ι (t d) (a.tmps.getD d undef)) : Region.wanted o (yielded ops a.tmps) = wantedA ops.toList t o := by
  unfold Region.wanted wantedA
  cases hg : o.guard with
  | none => rfl
  | some g =>
    obtain ⟨g, want⟩ := g
    simp only
    have hy : yielded ops a.tmps g = yieldedA ops.toList t g := by
      unfold yielded yieldedA
      have e0 : ops.toList[g]? = ops[g]? := by simp
      rw [e0]
      cases hd : (ops[g]?).bind (·.dst) with
      | none => rfl
      | some d =>
        have hrel := hs d (by unfold looks; rw [hg]; simp only [e0, hd]; simp)
        simp only [Option.bind_some]
        by_cases hlt : d < a.tmps.size
        · have e : a.tmps[d]? = some (a.tmps.getD d undef) := by simp [hlt]
          rw [e]
          generalize a.tmps.getD d undef = x at hrel
          generalize t d = y at hrel
          cases hrel <;> rfl
        · have e : a.tmps[d]? = none := by simp [Nat.le_of_not_lt hlt]
          have e2 : a.tmps.getD d undef = undef := by simp [Nat.le_of_not_lt hlt]
          rw [e2] at hrel
          rw [e]
          generalize t d = y at hrel
          unfold undef at hrel
          cases hrel
          rfl
    rw [hy]

/-- the operands alone -/
theorem operands_only {ι : Inj} {t : T} {a : Act} {o : Oper} (hsz : a.tmps.size = N) (hsel : ∀ cs b, o.op ≠ .select cs b) (hs : ∀ d ∈ looks ops.toList o, VRel ι (t d) (a.tmps.getD d undef)) :
    ∃ (t' : T) (a' : Act), TRel ι N t' a' ∧ execOp a.eval o = execOp a'.eval o ∧ ∀ (E : Env) (r : Rec) (h : AH), astep E r o t h = astep E r o t' h := by
  let a' : Act := { tmps := (Array.range N).map (fun d => if d ∈ looks ops.toList o then a.tmps.getD d undef else undef), defers := [] }
  let t' : T := fun d => if d ∈ looks ops.toList o then t d else undef
  have ha' : ∀ d, a'.tmps.getD d undef = if d ∈ looks ops.toList o then a.tmps.getD d undef else undef := by
    intro d
    by_cases hd : d < N
    · simp [a', hd]
    · have e1 : a.tmps.getD d undef = undef := by
        have : a.tmps.size ≤ d := by omega
        simp [this]
      rw [e1]
      have : a'.tmps.size ≤ d := by simp [a']; omega
      simp [this]
  have hop : ∀ d, Operand.tmp d ∈ o.op.operands → d ∈ looks ops.toList o := fun d hd => by
    unfold looks
    exact List.mem_append_left _ (List.mem_filterMap.2 ⟨.tmp d, by simpa using hd, rfl⟩)
  refine ⟨t', a', ⟨by simp [a'], rfl, fun d => ?_⟩, ?_, fun E r h => ?_⟩
  · rw [ha']
    by_cases hd : d ∈ looks ops.toList o
    · simp only [t', hd, if_true]; exact hs d hd
    · simp only [t', hd, if_false]; exact undef_rel ι
  · refine execOp_congr o hsel fun x hx => ?_
    cases x with
    | tmp d =>
      show a.tmps.getD d undef = a'.tmps.getD d undef
      rw [ha', if_pos (hop d hx)]
    | _ => rfl
  · refine astep_congr fun x hx => ?_
    cases x with
    | tmp d => simp only [ev, t', hop d hx, if_true]
    | _ => rfl

/-- the invariant behind one more operation -/
theorem DInv.next (hE : E.Fine) (hk : Keeps r) (c : DCtx E r N ops t h tt hh vv) (inv : DInv N ops t h hh vv ι₀ w₀ listed a w ι lo hi)
    {j : Nat} {o : Oper} (ho : ops[j]? = some o) (hun : listed.getD j false = false) (hed : ∀ e ∈ edges o, listed.getD e false = true)
    {v' : Value} {w' : World} {ι' : Inj} {lo' hi' : Nat} (hle : ι.le ι') (hv : VRel (ι'.cut (hh (j + 1)).n) (vv j) v')
    (hother : ∀ b, b < (hh j).n ∨ (hh (j + 1)).n ≤ b → ι' b = ι b) (hinb : ∀ b I, ι' b = some I → I.B < w'.heap.size)
    (hlohi : lo' ≤ hi' ∧ hi' ≤ ops.size)
    (low : ∀ i o, ops[i]? = some o → heapOp o = true → i < lo' → i = j ∨ listed.getD i false = true)
    (high : ∀ i o, ops[i]? = some o → heapOp o = true → hi' ≤ i → i ≠ j ∧ listed.getD i false = false)
    (mid : ∀ i o, ops[i]? = some o → heapOp o = true → lo' ≤ i → i < hi' → bar ops i = false)
    (end_ : hi' = ops.size ∨ ∃ o, ops[hi']? = some o ∧ heapOp o = true ∧ bar ops hi' = true)
    (rel : ∀ k, lo' ≤ k → k ≤ hi' → HRel (ι'.cut (hh k).n) (hh k) w' ∧ Ext ι₀ h w₀ (ι'.cut (hh k).n) (hh k) w') :
    DInv N ops t h hh vv ι₀ w₀ (listed.setIfInBounds j true) (a.put o.dst v') w' ι' lo' hi' := by
  have hj : j < ops.size := (Array.getElem?_eq_some_iff.1 ho).1
  have hjl : j < listed.size := by rw [inv.sz]; exact hj
  have hset : ∀ i, (listed.setIfInBounds j true).getD i false = if i = j then true else listed.getD i false := fun i => listed_set false hjl
  have hput : ∀ d, o.dst ≠ some d → (a.put o.dst v').tmps.getD d undef = a.tmps.getD d undef := fun d hd => by
    cases hdd : o.dst with
    | none => rfl
    | some d' =>
      have : d' ≠ d := fun e => hd (by rw [hdd, e])
      simp [Act.put, Array.getD_eq_getD_getElem?, Array.getElem?_setIfInBounds_ne this]
  refine { sz := by simp [inv.sz], closed := ?_, size := ?_, defers := ?_, val := ?_, base := ?_, le0 := Inj.le_trans inv.le0 hle, gap := ?_, top := ?_, inb := hinb, lohi := hlohi, low := ?_, high := ?_, mid := mid, end_ := end_, rel := rel }
  · intro i o' hi hl e hee
    rw [hset] at hl ⊢
    by_cases e1 : i = j
    · subst e1
      rw [ho] at hi
      obtain rfl := Option.some.inj hi
      split
      · rfl
      · exact hed e hee
    · rw [if_neg e1] at hl
      split
      · rfl
      · exact inv.closed i o' hi hl e hee
  · cases o.dst <;> simp [Act.put, inv.size]
  · cases o.dst <;> simp [Act.put, inv.defers]
  · intro i o' d hi hl hd hN
    rw [hset] at hl
    by_cases e1 : i = j
    · subst e1
      rw [ho] at hi
      obtain rfl := Option.some.inj hi
      have : (a.put o.dst v').tmps.getD d undef = v' := by
        rw [hd]
        have : d < a.tmps.size := by rw [inv.size]; exact hN
        simp [Act.put, this]
      rw [this]; exact hv
    · rw [if_neg e1] at hl
      rw [hput d (c.facts.uniq i j o' o d (by simpa using hi) (by simpa using ho) e1 hd)]
      exact (inv.val i o' d hi hl hd hN).mono (cut_mono hle (Nat.le_refl _))
  · intro d hno
    have hne : o.dst ≠ some d := fun hd => by
      have := hno j o ho hd
      rw [hset, if_pos rfl] at this; cases this
    rw [hput d hne]
    refine inv.base d fun i o' hi hd => ?_
    have := hno i o' hi hd
    rw [hset] at this
    split at this
    · cases this
    · exact this
  · intro k hks hl b h1 h2
    rw [hset] at hl
    split at hl
    · cases hl
    · rename_i hkj
      rw [hother b ?_]
      · exact inv.gap k hks hl b h1 h2
      · rcases Nat.lt_or_ge k j with hlt | hge
        · left
          exact Nat.lt_of_lt_of_le h2 (c.n_mono hE hk (by omega) (by omega))
        · right
          exact Nat.le_trans (c.n_mono hE hk (by omega) (by omega)) h1
  · intro b hb
    rw [hother b (.inr (Nat.le_trans (c.n_mono hE hk (by omega) (Nat.le_refl _)) hb))]
    exact inv.top b hb
  · intro i o' hi hhe hlt
    rw [hset]
    rcases low i o' hi hhe hlt with e | hl
    · rw [if_pos e]
    · split <;> first | rfl | exact hl
  · intro i o' hi hhe hge
    obtain ⟨h1, h2⟩ := high i o' hi hhe hge
    rw [hset, if_neg h1]; exact h2

theorem pos_quiet (c : DCtx E r N ops t h tt hh vv) (inv : DInv N ops t h hh vv ι₀ w₀ listed a w ι lo hi) {j : Nat} {o : Oper} (ho : ops[j]? = some o) (hun : listed.getD j false = false)
    (hed : ∀ e ∈ edges o, listed.getD e false = true) (hhe : heapOp o = true) : lo ≤ j ∧ (bar ops j = false → j < hi) ∧ (bar ops j = true → j = hi ∧ ∀ i o', ops[i]? = some o' → heapOp o' = true → i < j → listed.getD i false = true) := by
  have hj : j < ops.size := (Array.getElem?_eq_some_iff.1 ho).1
  have hlo : lo ≤ j := by
    rcases Nat.lt_or_ge j lo with hlt | hge
    · have := inv.low j o ho hhe hlt; rw [hun] at this; cases this
    · exact hge
  have nothi : ∀ o', ops[hi]? = some o' → heapOp o' = true → bar ops hi = true → ¬ hi < j := fun o' ho' hh' hb hlt => by
    have hord := bar_ordered' hb ho hhe (by omega)
    have := before_listed c.facts inv.closed ho hed (ordered_lt hord hlt)
    have h2 := inv.high hi o' ho' hh' (Nat.le_refl _)
    rw [this] at h2; cases h2
  refine ⟨hlo, fun hb => ?_, fun hb => ⟨?_, fun i o' hi' hh' hlt => ?_⟩⟩
  · rcases Nat.lt_or_ge j hi with hlt | hge
    · exact hlt
    · rcases inv.end_ with e | ⟨o', ho', hh', hb'⟩
      · omega
      · have hne : hi ≠ j := fun e => by rw [e, hb] at hb'; cases hb'
        exact absurd (by omega) (nothi o' ho' hh' hb')
  · rcases Nat.lt_or_ge j hi with hlt | hge
    · have := inv.mid j o ho hhe hlo hlt; rw [hb] at this; cases this
    · rcases inv.end_ with e | ⟨o', ho', hh', hb'⟩
      · omega
      · have := nothi o' ho' hh' hb'; omega
  · exact before_listed c.facts inv.closed ho hed (ordered_lt (bar_ordered hb hi' hh' (by omega)) hlt)

/-- ids from the next barrier on are nobody's -/
theorem none_from_hi (c : DCtx E r N ops t h tt hh vv) (inv : DInv N ops t h hh vv ι₀ w₀ listed a w ι lo hi) : ∀ b, (hh hi).n ≤ b → ι b = none := by
  have key : ∀ k i, i + k = ops.size → hi ≤ i → ∀ b, (hh i).n ≤ b → ι b = none := by
    intro k
    induction k with
    | zero => intro i hi' _ b hb; have : i = ops.size := by omega
              subst this; exact inv.top b hb
    | succ k ih =>
      intro i hik hge b hb
      have ho : ops[i]? = some (ops[i]'(by omega)) := by simp
      rcases Nat.lt_or_ge b (hh (i + 1)).n with hlt | hge2
      · cases hhe : heapOp (ops[i]'(by omega)) with
        | true => exact inv.gap i (by omega) (inv.high i _ ho hhe hge) b hb hlt
        | false => rw [c.nonheap ho hhe] at hlt; omega
      · exact ih (i + 1) (by omega) (by omega) b hge2
  exact key (ops.size - hi) hi (by have := inv.lohi; omega) (Nat.le_refl _)

/-- the phase goes on as it is -/
theorem DInv.stay (hE : E.Fine) (hk : Keeps r) (c : DCtx E r N ops t h tt hh vv) (inv : DInv N ops t h hh vv ι₀ w₀ listed a w ι lo hi)
    {j : Nat} {o : Oper} (ho : ops[j]? = some o) (hun : listed.getD j false = false) (hed : ∀ e ∈ edges o, listed.getD e false = true) (hq : heapOp o = true → bar ops j = false)
    {v' : Value} {w' : World} {ι' : Inj} (hle : ι.le ι') (hv : VRel (ι'.cut (hh (j + 1)).n) (vv j) v')
    (hother : ∀ b, b < (hh j).n ∨ (hh (j + 1)).n ≤ b → ι' b = ι b) (hinb : ∀ b I, ι' b = some I → I.B < w'.heap.size)
    (rel : ∀ k, lo ≤ k → k ≤ hi → HRel (ι'.cut (hh k).n) (hh k) w' ∧ Ext ι₀ h w₀ (ι'.cut (hh k).n) (hh k) w') :
    DInv N ops t h hh vv ι₀ w₀ (listed.setIfInBounds j true) (a.put o.dst v') w' ι' lo hi := by
  refine inv.next hE hk c ho hun hed hle hv hother hinb inv.lohi (fun i o' h1 h2 h3 => .inr (inv.low i o' h1 h2 h3)) (fun i o' h1 h2 h3 => ⟨fun e => ?_, inv.high i o' h1 h2 h3⟩) inv.mid inv.end_ rel
  subst e
  rw [ho] at h1
  obtain rfl := Option.some.inj h1
  have := (pos_quiet c inv ho hun hed h2).2.1 (hq h2)
  omega

/-- a barrier has come up: the next phase begins -/
theorem DInv.pass (hE : E.Fine) (hk : Keeps r) (c : DCtx E r N ops t h tt hh vv) (inv : DInv N ops t h hh vv ι₀ w₀ listed a w ι lo hi)
    {j : Nat} {o : Oper} (ho : ops[j]? = some o) (hun : listed.getD j false = false) (hed : ∀ e ∈ edges o, listed.getD e false = true) (hhe : heapOp o = true) (hb : bar ops j = true)
    {v' : Value} {w' : World} {ι' : Inj} (hle : ι.le ι') (hv : VRel ι' (vv j) v') (hold : ∀ b, b < (hh j).n → ι' b = ι b)
    (hr : HRel ι' (hh (j + 1)) w') (he : Ext ι₀ h w₀ ι' (hh (j + 1)) w') :
    ∃ lo' hi', DInv N ops t h hh vv ι₀ w₀ (listed.setIfInBounds j true) (a.put o.dst v') w' ι' lo' hi' := by
  have hj : j < ops.size := (Array.getElem?_eq_some_iff.1 ho).1
  obtain ⟨hlo, _, hbb⟩ := pos_quiet c inv ho hun hed hhe
  obtain ⟨rfl, hall⟩ := hbb hb
  obtain ⟨hi', h1, h2, h3, h4⟩ := next_bar ops (ops.size - (j + 1)) (j + 1) (by omega)
  have hcut : ∀ k, j + 1 ≤ k → k ≤ ops.size → ι'.cut (hh k).n = ι' := fun k hk1 hk2 => by
    funext b
    unfold Inj.cut
    split
    · rfl
    · rename_i hge
      exact (hr.fit b (Nat.le_trans (c.n_mono hE hk hk1 hk2) (by omega))).symm
  refine ⟨j + 1, hi', inv.next hE hk c ho hun hed hle (by rw [hcut _ (Nat.le_refl _) (by omega)]; exact hv) (fun b hb' => ?_) hr.inb ⟨h1, h2⟩ (fun i o' p q s => ?_) (fun i o' p q s => ⟨by omega, inv.high i o' p q (by omega)⟩) h3 h4 (fun k hk1 hk2 => ?_)⟩
  · rcases hb' with hb' | hb'
    · exact hold b hb'
    · rw [hr.fit b hb', none_from_hi c inv b (Nat.le_trans (c.n_mono hE hk (by omega) (by omega)) hb')]
  · by_cases e : i = j
    · exact .inl e
    · exact .inr (hall i o' p q (by omega))
  · rw [hcut k hk1 (by omega)]
    have hsame := c.phase hE hk h2 h3 (Nat.le_refl _) hk1 hk2
    have hn := c.n_mono hE hk hk1 (Nat.le_trans hk2 h2)
    exact ⟨hr.swap hn hsame, he.swap hr hn (c.lim hE hk hk1 (Nat.le_trans hk2 h2)) hsame⟩

end

end Go.AM
