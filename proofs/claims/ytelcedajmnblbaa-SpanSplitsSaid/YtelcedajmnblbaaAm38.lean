/-
  AM, part 38: a state that has a form: its letters.
-/
import Derived.Test.YtelcedajmnblbaaAm37
set_option linter.unusedVariables false
set_option linter.unusedSimpArgs false
namespace Go.AM

/-- the letters behind a cut -/
def Sg.cut (g : Sg) (cu : Cut) (n0 : Nat) (ρb : Nat → D) (r : Inst) (t : T) (hn : Nat) : Sg :=
  { C := g.C, ρ := overR ρb cu.lo cu.cnt (subR g.C g.ρ r.2.1), u := fun d => if d = cu.lo then t else g.u d,
    σ := fun b => if b < n0 then g.σ b else if b < n0 + cu.news.length then g.σ ((r.2.2.lookup (b - n0)).getD 0) else hn + (b - (n0 + cu.news.length)) }

theorem lookup_mem {α : Type} {k : Nat} {v : α} : ∀ {l : List (Nat × α)}, l.lookup k = some v → (k, v) ∈ l
  | [], h => by cases h
  | (a, b) :: l, h => by
    simp only [List.lookup_cons] at h
    split at h
    · rename_i e
      have : k = a := by simpa using e
      obtain rfl := Option.some.inj h
      rw [this]; simp
    · exact List.mem_cons_of_mem _ (lookup_mem h)

section
variable {cu : Cut} {n0 : Nat} {g g' : Sg} {H : SH} {h : AH}

/-- what a part of the matching must give -/
structure Pt (cu : Cut) (g g' : Sg) (bm : List (Nat × Nat)) (r : Inst) : Prop where
  c : ∀ c ∈ r.1, g.B c = true
  v : ∀ p ∈ r.2.1, g'.ρ p.1 = g.d p.2
  b : ∀ p ∈ r.2.2, bm.lookup p.1 = some p.2

theorem Pt.left {bm : List (Nat × Nat)} {a b : Inst} (h : Pt cu g g' bm (a.app b)) : Pt cu g g' bm a :=
  ⟨fun c hc => h.c c (List.mem_append_left _ hc), fun c hc => h.v c (List.mem_append_left _ hc), fun c hc => h.b c (List.mem_append_left _ hc)⟩
theorem Pt.right {bm : List (Nat × Nat)} {a b : Inst} (h : Pt cu g g' bm (a.app b)) : Pt cu g g' bm b :=
  ⟨fun c hc => h.c c (List.mem_append_right _ hc), fun c hc => h.v c (List.mem_append_right _ hc), fun c hc => h.b c (List.mem_append_right _ hc)⟩

/-- a block of the form's own rows -/
def PairOk (cu : Cut) (g g' : Sg) (H : SH) (h : AH) (p : Nat × Nat) : Prop :=
  ∃ r, cu.news[p.1]? = some r ∧ p.2 < H.n ∧ (H.b p.2).live = true ∧ (H.b p.2).wr = r.wr ∧ h.b (g.σ p.2) = (SB.row (.v r.n) r.ks r.wr r.ex).den g' ∧ g.σ p.2 < h.n

theorem L_v {n : Nat} {x : X} (hv : g'.ρ n = g.d x) : g'.L (.v n) = g.L x := by
  show (g'.ρ n).toL = _
  rw [hv]; rfl

theorem mRow_sound (hr : SR g H h) {bm : List (Nat × Nat)} (hσ : ∀ j b, j < cu.news.length → bm.lookup j = some b → g'.σ (n0 + j) = g.σ b) {j : Nat} {s : S0} {r : Inst} (hm : mRow cu H j s = some r) (hp : Pt cu g g' bm r) :
    (newRow cu n0 j).den g' = s.den g ∧ ∀ p ∈ r.2.2, PairOk cu g g' H h p := by
  unfold mRow at hm
  split at hm
  · rename_i nr b es i len cap hn
    have hj : j < cu.news.length := (List.getElem?_eq_some_iff.1 hn).1
    split at hm
    · rename_i hb
      obtain ⟨rfl, hb⟩ := hb
      split at hm
      · rename_i x ks wr ex hk
        split at hm
        · rename_i hf
          obtain ⟨rfl, rfl, rfl⟩ := hf
          obtain rfl := Option.some.inj hm
          have hv : g'.ρ nr.n = g.d x := hp.v (nr.n, x) (by simp)
          have hbm : bm.lookup j = some b := hp.b (j, b) (by simp)
          have c1 : g.I i = 0 := by
            have := hp.c (xeq i (.i 0)) (by simp)
            simpa [Sg.B, Sg.I, Sg.d, X.den] using this
          have c2 : g.I len = (g.L x).length := by
            have := hp.c (xeq len (xlen x)) (by simp)
            simpa [Sg.B, Sg.I, Sg.L, Sg.d, xlen_den] using this
          have c3 : g.I cap = (g.L x).length := by
            have := hp.c (xeq cap (xlen x)) (by simp)
            simpa [Sg.B, Sg.I, Sg.L, Sg.d, xlen_den] using this
          obtain ⟨q1, q2⟩ := hr.blk b hb (by rw [hk]; rfl)
          refine ⟨?_, fun p hp' => ?_⟩
          · simp only [newRow, hn, S0.den, hσ j b hj hbm, Sg.I_toNat, Sg.I_i, c1, c2, c3]
            have : g'.I (.len (.v nr.n)) = (g.L x).length := by
              show ((g'.ρ nr.n).toL.length : Int) = _
              rw [hv]; rfl
            rw [this]
          · obtain rfl : p = (j, b) := by simpa using hp'
            refine ⟨nr, hn, hb, by rw [hk]; rfl, by rw [hk]; rfl, ?_, q2⟩
            show h.b (g.σ b) = _
            rw [q1, hk]
            simp only [SB.den, L_v hv]
        · cases hm
      · rename_i c ces wr ex hk
        split at hm
        · rename_i z
          split at hm
          · rename_i hf
            obtain ⟨rfl, rfl, rfl, hz⟩ := hf
            obtain ⟨x, hx, rfl⟩ := Option.map_eq_some_iff.1 hm
            obtain ⟨u1, u2⟩ := unkR_den (g := g) hx
            have hv : g'.ρ nr.n = g.d x := hp.v (nr.n, x) (by simp)
            have hbm : bm.lookup j = some b := hp.b (j, b) (by simp)
            have c1 : g.I i = 0 := by
              have := hp.c (xeq i (.i 0)) (by simp)
              simpa [Sg.B, Sg.I, Sg.d, X.den] using this
            have c3 : g.I cap = z := by
              have := hp.c (xeq cap (.i z)) (by simp)
              simpa [Sg.B, Sg.I, Sg.d, X.den] using this
            obtain ⟨q1, q2⟩ := hr.blk b hb (by rw [hk]; rfl)
            refine ⟨?_, fun p hp' => ?_⟩
            · simp only [newRow, hn, S0.den, hσ j b hj hbm, Sg.I_toNat, Sg.I_i, c1, c3]
              have : g'.I (.len (.v nr.n)) = (g.L x).length := by
                show ((g'.ρ nr.n).toL.length : Int) = _
                rw [hv]; rfl
              rw [this, u2]; rfl
            · obtain rfl : p = (j, b) := by simpa using hp'
              refine ⟨nr, hn, hb, by rw [hk]; rfl, by rw [hk]; rfl, ?_, q2⟩
              show h.b (g.σ b) = _
              rw [q1, hk]
              simp only [SB.den, L_v hv, u1]
          · cases hm
        · cases hm
      · cases hm
    · cases hm
  · cases hm

theorem mCell_sound (hr : SR g H h) (ha : Agree cu.lo n0 g g') {bm : List (Nat × Nat)} (hσ : ∀ j b, j < cu.news.length → bm.lookup j = some b → g'.σ (n0 + j) = g.σ b) {p v : S0} {sl : Slot} {r : Inst} (v0 : S0)
    (hpv : p = patCell cu n0 v0 sl) (hm : mCell cu n0 H p v sl = some r) (hp : Pt cu g g' bm r) : p.den g' = v.den g ∧ ∀ p ∈ r.2.2, PairOk cu g g' H h p := by
  have same : (if p.same v && p.upto cu.lo n0 then some Inst.nil else none) = some r → p.den g' = v.den g ∧ ∀ p ∈ r.2.2, PairOk cu g g' H h p := by
    intro hm
    split at hm
    · rename_i hs
      simp only [Bool.and_eq_true] at hs
      obtain rfl := Option.some.inj hm
      exact ⟨by rw [← S0.same_eq hs.1]; exact S0.upto_den ha hs.2, fun p hp => by cases hp⟩
    · cases hm
  cases sl with
  | var k n =>
    simp only [mCell] at hm
    split at hm
    · rename_i k' x
      split at hm
      · rename_i hk
        subst hk
        obtain rfl := Option.some.inj hm
        have hv : g'.ρ n = g.d x := hp.v (n, x) (by simp)
        subst hpv
        refine ⟨?_, fun p hp => by cases hp⟩
        simp only [patCell, S0.den]
        show enc k (g'.ρ n) = _
        rw [hv]
      · cases hm
    · cases hm
  | row j =>
    subst hpv
    exact mRow_sound hr hσ hm hp
  | same => exact same hm
  | drop => exact same hm
  | agg ks n => exact same hm

theorem mCells_sound (hr : SR g H h) (ha : Agree cu.lo n0 g g') {bm : List (Nat × Nat)} (hσ : ∀ j b, j < cu.news.length → bm.lookup j = some b → g'.σ (n0 + j) = g.σ b) : ∀ {l0 vs : List S0} {ss : List Slot} {r : Inst},
    mCells cu n0 H (zipCells cu n0 l0 ss) vs ss = some r → Pt cu g g' bm r → dens g' (zipCells cu n0 l0 ss) = dens g vs ∧ ∀ p ∈ r.2.2, PairOk cu g g' H h p
  | [], [], ss, r, hm, hp => by
    cases ss <;> simp only [zipCells, mCells, Option.some.injEq] at hm <;> subst hm <;> exact ⟨rfl, fun p hp => by cases hp⟩
  | [], v :: vs, ss, r, hm, hp => by cases ss <;> cases hm
  | v0 :: l0, [], ss, r, hm, hp => by cases ss <;> cases hm
  | v0 :: l0, v :: vs, [], r, hm, hp => by
    simp only [zipCells, mCells] at hm
    split at hm
    · rename_i a b h1 h2
      obtain rfl := Option.some.inj hm
      obtain ⟨e1, e2⟩ := mCell_sound (sl := .same) hr ha hσ v0 rfl h1 hp.left
      have ih := mCells_sound hr ha hσ (l0 := l0) (vs := vs) (ss := []) (r := b) (by
        cases l0 <;> exact h2) hp.right
      have hz : zipCells cu n0 l0 [] = l0 := by cases l0 <;> rfl
      rw [hz] at ih
      refine ⟨?_, fun p hm => ?_⟩
      · simp only [zipCells, dens, List.map_cons]
        rw [show patCell cu n0 v0 .same = v0 from rfl] at e1
        rw [e1]
        exact congrArg _ ih.1
      · rcases List.mem_append.1 hm with h | h
        · exact e2 p h
        · exact ih.2 p h
    · cases hm
  | v0 :: l0, v :: vs, s :: ss, r, hm, hp => by
    simp only [zipCells, mCells] at hm
    split at hm
    · rename_i a b h1 h2
      obtain rfl := Option.some.inj hm
      obtain ⟨e1, e2⟩ := mCell_sound hr ha hσ v0 rfl h1 hp.left
      have ih := mCells_sound hr ha hσ h2 hp.right
      refine ⟨?_, fun p hm => ?_⟩
      · simp only [zipCells, dens, List.map_cons]
        rw [e1]
        exact congrArg _ ih.1
      · rcases List.mem_append.1 hm with h | h
        · exact e2 p h
        · exact ih.2 p h
    · cases hm

theorem mSlot_sound (hr : SR g H h) (ha : Agree cu.lo n0 g g') {bm : List (Nat × Nat)} (hσ : ∀ j b, j < cu.news.length → bm.lookup j = some b → g'.σ (n0 + j) = g.σ b) {i : Nat} {u : Value} (hu : g'.u cu.lo i = u) {v0 v : S2} (hv : u = v.den g) {sl : Slot} {r : Inst}
    (hm : mSlot cu n0 H (patSlot cu n0 i v0 sl) v sl = some r) (hp : Pt cu g g' bm r) : u = (patSlot cu n0 i v0 sl).den g' ∧ ∀ p ∈ r.2.2, PairOk cu g g' H h p := by
  cases sl with
  | same =>
    replace hm : (if v0.same v && v0.upto cu.lo n0 then some Inst.nil else none) = some r := hm
    by_cases hs : (v0.same v && v0.upto cu.lo n0) = true
    · rw [if_pos hs] at hm
      simp only [Bool.and_eq_true] at hs
      obtain rfl := Option.some.inj hm
      exact ⟨by rw [hv, ← S2.same_eq hs.1]; exact (S2.upto_den ha hs.2).symm, fun p hp => by cases hp⟩
    · rw [if_neg hs] at hm; cases hm
  | drop =>
    simp only [mSlot, Option.some.injEq] at hm
    subst hm
    exact ⟨by rw [← hu]; rfl, fun p hp => by cases hp⟩
  | var k n =>
    simp only [mSlot] at hm
    split at hm
    · rename_i k' x
      split at hm
      · rename_i hk
        subst hk
        obtain rfl := Option.some.inj hm
        have hx : g'.ρ n = g.d x := hp.v (n, x) (by simp)
        refine ⟨?_, fun p hp => by cases hp⟩
        rw [hv]
        simp only [patSlot, s0, S2.den, S1.den, S0.den]
        show enc k _ = enc k (g'.ρ n)
        rw [hx]
      · cases hm
    · cases hm
  | agg ks n =>
    simp only [mSlot] at hm
    split at hm
    · rename_i l
      obtain ⟨x, h1, rfl⟩ := Option.map_eq_some_iff.1 hm
      have hx : g'.ρ n = g.d x := hp.v (n, x) (by simp)
      obtain ⟨a1, _, _⟩ := unk_den g h1
      refine ⟨?_, fun p hp => by cases hp⟩
      rw [hv]
      simp only [patSlot, S2.den, S1.den, comps_den, List.drop_zero]
      rw [← a1]
      show _ = Value.agg (encL ks (g'.ρ n).toL).toArray
      rw [hx]; rfl
    · cases hm
  | row j =>
    simp only [mSlot] at hm
    split at hm
    · rename_i s
      obtain ⟨e1, e2⟩ := mRow_sound hr hσ hm hp
      exact ⟨by rw [hv]; simp only [patSlot, s0, S2.den, S1.den]; exact e1.symm, e2⟩
    · cases hm

theorem mBlk_sound (hr : SR g H h) (ha : Agree cu.lo n0 g g') {bm : List (Nat × Nat)} (hσ : ∀ j b, j < cu.news.length → bm.lookup j = some b → g'.σ (n0 + j) = g.σ b) {b : Nat} (hb : b < H.n) {k0 : SB} {cl : BCls} {r : Inst}
    (hm : mBlk cu n0 H (patBlk cu n0 k0 cl) (H.b b) cl = some r) (hp : Pt cu g g' bm r) :
    ((patBlk cu n0 k0 cl).live = true → (H.b b).live = true ∧ (H.b b).wr = (patBlk cu n0 k0 cl).wr ∧ h.b (g.σ b) = (patBlk cu n0 k0 cl).den g' ∧ g.σ b < h.n) ∧ ∀ p ∈ r.2.2, PairOk cu g g' H h p := by
  cases cl with
  | dead =>
    simp only [mBlk, Option.some.injEq] at hm
    subst hm
    exact ⟨fun hl => (by cases hl), fun p hp => (by cases hp)⟩
  | same =>
    replace hm : (if k0.same (H.b b) && k0.upto cu.lo n0 then some Inst.nil else none) = some r := hm
    by_cases hs : (k0.same (H.b b) && k0.upto cu.lo n0) = true
    · rw [if_pos hs] at hm
      simp only [Bool.and_eq_true] at hs
      obtain rfl := Option.some.inj hm
      have e := SB.same_eq hs.1
      refine ⟨fun hl => ?_, fun p hp => by cases hp⟩
      simp only [patBlk] at hl ⊢
      rw [e] at hl
      obtain ⟨q1, q2⟩ := hr.blk b hb hl
      exact ⟨hl, by rw [e], by rw [q1, SB.upto_den ha hs.2, e], q2⟩
    · rw [if_neg hs] at hm; cases hm
  | row n =>
    simp only [mBlk] at hm
    cases k0 <;> simp only [patBlk] at hm ⊢
    · cases hm
    · cases hm
    · rename_i x0 ks wr ex
      split at hm
      · rename_i _ _ _ _ e1 x ks' wr' ex' e2 e3
        simp only [SB.row.injEq] at e2
        obtain ⟨_, rfl, rfl, rfl⟩ := e2
        split at hm
        · rename_i hf
          obtain ⟨rfl, rfl, rfl⟩ := hf
          obtain rfl := Option.some.inj hm
          have hx : g'.ρ n = g.d x := hp.v (n, x) (by simp)
          obtain ⟨q1, q2⟩ := hr.blk b hb (by rw [e3]; rfl)
          refine ⟨fun _ => ⟨by rw [e3]; rfl, by rw [e3]; rfl, ?_, q2⟩, fun p hp => by cases hp⟩
          rw [q1, e3]
          simp only [SB.den, L_v hx]
        · cases hm
      · cases hm
  | cells ss =>
    simp only [mBlk] at hm
    cases k0 <;> simp only [patBlk] at hm ⊢
    · cases hm
    · rename_i l es wr ex
      split at hm
      · rename_i _ _ _ _ _ l' es' wr' ex' e2 e3
        simp only [SB.cells.injEq] at e2
        obtain ⟨rfl, rfl, rfl, rfl⟩ := e2
        split at hm
        · rename_i hf
          obtain ⟨rfl, rfl, rfl⟩ := hf
          obtain ⟨q1, q2⟩ := hr.blk b hb (by rw [e3]; rfl)
          obtain ⟨c1, c2⟩ := mCells_sound hr ha hσ hm hp
          refine ⟨fun _ => ⟨by rw [e3]; rfl, by rw [e3]; rfl, ?_, q2⟩, c2⟩
          rw [q1, e3]
          simp only [SB.den, c1]
        · cases hm
      · cases hm
    · cases hm

theorem mAll_get {f : Nat → Option Inst} : ∀ {n : Nat} {r : Inst}, mAll f n = some r → ∀ i, i < n → ∃ q, f i = some q ∧ (∀ c ∈ q.1, c ∈ r.1) ∧ (∀ c ∈ q.2.1, c ∈ r.2.1) ∧ (∀ c ∈ q.2.2, c ∈ r.2.2)
  | 0, r, _, i, hi => absurd hi (Nat.not_lt_zero _)
  | n + 1, r, hm, i, hi => by
    simp only [mAll] at hm
    split at hm
    · rename_i a b h1 h2
      obtain rfl := Option.some.inj hm
      rcases Nat.lt_or_ge i n with hlt | hge
      · obtain ⟨q, e, q1, q2, q3⟩ := mAll_get h1 i hlt
        exact ⟨q, e, fun c hc => List.mem_append_left _ (q1 c hc), fun c hc => List.mem_append_left _ (q2 c hc), fun c hc => List.mem_append_left _ (q3 c hc)⟩
      · obtain rfl : i = n := by omega
        exact ⟨b, h2, fun c hc => List.mem_append_right _ hc, fun c hc => List.mem_append_right _ hc, fun c hc => List.mem_append_right _ hc⟩
    · cases hm

theorem mAll_pair {f : Nat → Option Inst} : ∀ {n : Nat} {r : Inst}, mAll f n = some r → ∀ p ∈ r.2.2, ∃ i q, i < n ∧ f i = some q ∧ p ∈ q.2.2
  | 0, r, hm, p, hp => by simp only [mAll, Option.some.injEq] at hm; subst hm; cases hp
  | n + 1, r, hm, p, hp => by
    simp only [mAll] at hm
    split at hm
    · rename_i a b h1 h2
      obtain rfl := Option.some.inj hm
      rcases List.mem_append.1 hp with h | h
      · obtain ⟨i, q, hi, e, hq⟩ := mAll_pair h1 p h
        exact ⟨i, q, by omega, e, hq⟩
      · exact ⟨n, b, by omega, h2, h⟩
    · cases hm
end

theorem inst_sound {cu : Cut} {W : List Nat} {N : Nat} {τ0 τ : TS} {H0 H : SH} {r : Inst} (hi : instOf cu W N τ0 H0 τ H = some r) {g : Sg} {t : T} {h : AH} (ht : TR g τ t) (hr : SR g H h) (hc : ∀ c ∈ r.1, g.B c = true)
    {ρb : Nat → D} (hρ : ∀ i, i < cu.lo → ρb i = g.ρ i) :
    TR (g.cut cu H0.n ρb r t h.n) (patT cu W N H0.n τ0) t ∧ SR (g.cut cu H0.n ρb r t h.n) (patH cu H0) h := by
  unfold instOf at hi
  simp only at hi
  split at hi
  · rename_i a b h1 h2
    split at hi
    · rename_i hok
      obtain rfl := Option.some.inj hi
      simp only [Bool.and_eq_true] at hok
      obtain ⟨⟨⟨k1, k2⟩, k3⟩, k4⟩ := hok
      have hn : H0.n ≤ H.n := Nat.le_of_ble_eq_true k1
      have hlim : H.lim = 0 := nbeq k2
      generalize hg : g.cut cu H0.n ρb (a.app b) t h.n = g'
      have ha : Agree cu.lo H0.n g g' := by
        subst hg
        refine ⟨rfl, fun i hi => ?_, fun d hd => ?_, fun b hb => ?_⟩
        · simp only [Sg.cut, overR]
          rw [if_neg (by omega), hρ i hi]
        · simp only [Sg.cut]
          rw [if_neg (by omega)]
        · simp only [Sg.cut, hb, if_true]
      have hv : ∀ p ∈ (a.app b).2.1, g'.ρ p.1 = g.d p.2 := fun p hp => by
        have := List.all_eq_true.1 k4 p hp
        simp only [Bool.and_eq_true] at this
        obtain ⟨⟨q1, q2⟩, q3⟩ := this
        subst hg
        have q1 := Nat.le_of_ble_eq_true q1
        have q2 := blt_iff.1 q2
        simp only [Sg.cut, overR]
        rw [if_pos ⟨q1, q2⟩]
        unfold subR
        split at q3
        · rename_i y hy
          simp only [hy]
          rw [X.same_eq q3]; rfl
        · cases q3
      simp only [okRows, Bool.and_eq_true] at k3
      obtain ⟨⟨m1, m2⟩, m3⟩ := k3
      have hb : ∀ p ∈ (a.app b).2.2, (a.app b).2.2.lookup p.1 = some p.2 ∧ (H0.n ≤ p.2 ∨ ((patH cu H0).b p.2).live = false) := fun p hp => by
        have := List.all_eq_true.1 m2 p hp
        simp only [Bool.and_eq_true, beq_iff_eq, Bool.or_eq_true, Bool.not_eq_true'] at this
        exact ⟨this.1, this.2.imp Nat.le_of_ble_eq_true id⟩
      have hp : Pt cu g g' (a.app b).2.2 (a.app b) := ⟨hc, hv, fun p hp => (hb p hp).1⟩
      have hσ : ∀ j b', j < cu.news.length → (a.app b).2.2.lookup j = some b' → g'.σ (H0.n + j) = g.σ b' := fun j b' hj hl => by
        subst hg
        simp only [Sg.cut]
        rw [if_neg (by omega), if_pos (by omega), show H0.n + j - H0.n = j by omega, hl]
        rfl
      have slots : ∀ i, i < N → t i = (patT cu W N H0.n τ0 i).den g' ∧ ∀ q, mSlot cu H0.n H (patT cu W N H0.n τ0 i) (τ i) (slotOf cu W H0.n τ0 i) = some q → ∀ p ∈ q.2.2, PairOk cu g g' H h p := fun i hi => by
        obtain ⟨q, e, q1, q2, q3⟩ := mAll_get h1 i hi
        have e' := e
        simp only [patT, hi, if_true] at e
        have hpq : Pt cu g g' (a.app b).2.2 q := ⟨fun c hc' => hc c (List.mem_append_left _ (q1 c hc')), fun c hc' => hv c (List.mem_append_left _ (q2 c hc')), fun c hc' => hp.b c (List.mem_append_left _ (q3 c hc'))⟩
        obtain ⟨r1, r2⟩ := mSlot_sound hr ha hσ (u := t i) (by subst hg; simp only [Sg.cut, if_true]) (ht i) e hpq
        refine ⟨by simp only [patT, hi, if_true]; exact r1, fun q' e'' => ?_⟩
        rw [e'] at e''
        obtain rfl := Option.some.inj e''
        exact r2
      have blks : ∀ b', b' < H0.n → (((patH cu H0).b b').live = true → (H.b b').live = true ∧ (H.b b').wr = ((patH cu H0).b b').wr ∧ h.b (g.σ b') = ((patH cu H0).b b').den g' ∧ g.σ b' < h.n) ∧
          ∀ q, mBlk cu H0.n H ((patH cu H0).b b') (H.b b') (bclsOf cu H0.n (H0.b b') b') = some q → ∀ p ∈ q.2.2, PairOk cu g g' H h p := fun b' hb' => by
        obtain ⟨q, e, q1, q2, q3⟩ := mAll_get h2 b' hb'
        have e' := e
        have eb : (patH cu H0).b b' = patBlk cu H0.n (H0.b b') (bclsOf cu H0.n (H0.b b') b') := by simp only [patH, hb', if_true]
        rw [eb] at e
        have hpq : Pt cu g g' (a.app b).2.2 q := ⟨fun c hc' => hc c (List.mem_append_right _ (q1 c hc')), fun c hc' => hv c (List.mem_append_right _ (q2 c hc')), fun c hc' => hp.b c (List.mem_append_right _ (q3 c hc'))⟩
        obtain ⟨r1, r2⟩ := mBlk_sound hr ha hσ (by omega) e hpq
        rw [eb]
        refine ⟨r1, fun q' e'' => ?_⟩
        rw [← eb, e'] at e''
        obtain rfl := Option.some.inj e''
        exact r2
      have pairs : ∀ p ∈ (a.app b).2.2, PairOk cu g g' H h p := fun p hp => by
        rcases List.mem_append.1 hp with hp | hp
        · obtain ⟨i, q, hi, e, hq⟩ := mAll_pair h1 p hp
          exact (slots i hi).2 q e p hq
        · obtain ⟨i, q, hi, e, hq⟩ := mAll_pair h2 p hp
          exact (blks i hi).2 q e p hq
      -- a row of the form's own
      have news : ∀ b', H0.n ≤ b' → b' < H0.n + cu.news.length → ∃ r b₂, cu.news[b' - H0.n]? = some r ∧ (patH cu H0).b b' = .row (.v r.n) r.ks r.wr r.ex ∧ (a.app b).2.2.lookup (b' - H0.n) = some b₂ ∧ g'.σ b' = g.σ b₂ ∧ b₂ < H.n ∧ (H.b b₂).live = true ∧ (H.b b₂).wr = r.wr ∧
          h.b (g.σ b₂) = (SB.row (.v r.n) r.ks r.wr r.ex).den g' ∧ g.σ b₂ < h.n ∧ (H0.n ≤ b₂ ∨ ((patH cu H0).b b₂).live = false) := fun b' hb1 hb2 => by
        have hj : b' - H0.n < cu.news.length := by omega
        have := List.all_eq_true.1 m1 (b' - H0.n) (List.mem_range.2 hj)
        obtain ⟨b₂, hl⟩ := Option.isSome_iff_exists.1 this
        have hmem := lookup_mem hl
        obtain ⟨r, p1, p2, p3, p4, p5, p6⟩ := pairs _ hmem
        refine ⟨r, b₂, p1, ?_, hl, ?_, p2, p3, p4, p5, p6, (hb _ hmem).2⟩
        · have p1' : cu.news[b' - H0.n]? = some r := p1
          simp only [patH]
          rw [if_neg (by omega), p1']
        · have := hσ _ b₂ hj hl
          rw [show H0.n + (b' - H0.n) = b' by omega] at this
          exact this
      have old : ∀ b', b' < H0.n → g'.σ b' = g.σ b' := fun b' hb' => ha.σ b' hb'
      refine ⟨fun i => ?_, ⟨fun k => ?_, fun b' hb' hl => ?_, fun a' b' ha' hb' hw hl hne => ?_, fun b' _ => ?_⟩⟩
      · by_cases hi : i < N
        · exact (slots i hi).1
        · simp only [patT, hi, if_false]
          subst hg
          simp only [S2.den, Sg.cut, if_true]
      · subst hg
        simp only [Sg.cut, patH]
        rw [if_neg (by omega), if_neg (by omega)]
        omega
      · have hb'' : b' < H0.n + cu.news.length := hb'
        rcases Nat.lt_or_ge b' H0.n with hlt | hge
        · obtain ⟨_, _, q3, q4⟩ := (blks b' hlt).1 hl
          rw [old b' hlt]
          exact ⟨q3, q4⟩
        · obtain ⟨r, b₂, _, q2, _, q4, _, _, _, q8, q9, _⟩ := news b' hge hb''
          rw [q4, q2]
          exact ⟨q8, q9⟩
      · have ha'' : a' < H0.n + cu.news.length := ha'
        have hb'' : b' < H0.n + cu.news.length := hb'
        rcases Nat.lt_or_ge a' H0.n with hlt | hge <;> rcases Nat.lt_or_ge b' H0.n with hlt' | hge'
        · rw [old a' hlt, old b' hlt']
          obtain ⟨_, q2, _, _⟩ := (blks a' hlt).1 (SB.wr_live hw)
          obtain ⟨r1, _, _, _⟩ := (blks b' hlt').1 hl
          exact hr.inj a' b' (by omega) (by omega) (q2.trans hw) r1 hne
        · obtain ⟨r, b₂, _, _, _, q4, q5, q6, _, _, _, q10⟩ := news b' hge' hb''
          rw [old a' hlt, q4]
          obtain ⟨_, q2, _, _⟩ := (blks a' hlt).1 (SB.wr_live hw)
          refine hr.inj a' b₂ (by omega) q5 (q2.trans hw) q6 fun e => ?_
          subst e
          rcases q10 with q | q
          · omega
          · rw [SB.wr_live hw] at q; cases q
        · obtain ⟨r, b₂, _, q2, _, q4, q5, q6, q7, _, _, q10⟩ := news a' hge ha''
          rw [old b' hlt', q4]
          obtain ⟨r1, _, _, _⟩ := (blks b' hlt').1 hl
          rw [q2] at hw
          refine hr.inj b₂ b' q5 (by omega) (q7.trans hw) r1 fun e => ?_
          subst e
          rcases q10 with q | q
          · omega
          · rw [hl] at q; cases q
        · obtain ⟨r, b₂, _, q2, q3, q4, q5, q6, q7, _⟩ := news a' hge ha''
          obtain ⟨r', b₃, _, _, p3, p4, p5, p6, _⟩ := news b' hge' hb''
          rw [q4, p4]
          rw [q2] at hw
          refine hr.inj b₂ b₃ q5 p5 (q7.trans hw) p6 fun e => ?_
          subst e
          have := List.all_eq_true.1 (List.all_eq_true.1 m3 (a' - H0.n) (List.mem_range.2 (by omega))) (b' - H0.n) (List.mem_range.2 (by omega))
          simp only [Bool.or_eq_true, beq_iff_eq, bne_iff_ne, q3, p3] at this
          rcases this with h | h
          · omega
          · exact h rfl
      · have hl0 : ∀ b, h.lim ≤ g.σ b := fun b => hr.lim b (by rw [hlim]; exact Nat.zero_le _)
        subst hg
        simp only [Sg.cut]
        split
        · exact hl0 _
        · split
          · exact hl0 _
          · have := hl0 H.n
            have e := hr.next 0
            simp only [Nat.add_zero] at e
            omega
    · cases hi
  · cases hi

end Go.AM
