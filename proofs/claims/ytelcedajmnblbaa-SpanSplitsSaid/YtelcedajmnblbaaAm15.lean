/-
  AM, part 15: regions that draw their order are sound; the evaluator is sound.
-/
import Derived.Test.YtelcedajmnblbaaAm14
set_option linter.unusedVariables false
set_option linter.unusedSimpArgs false
namespace Go.AM

section
variable {E : Env} {r : Rec} {N : Nat} {ops : Array Oper} {t : T} {h : AH} {tt : Nat → T} {hh : Nat → AH} {vv : Nat → Value}
variable {ι₀ : Inj} {a₀ : Act} {w₀ : World} {listed : Array Bool} {a : Act} {w : World} {ι : Inj} {lo hi : Nat}

theorem grew_of_ext {ι ι' : Inj} {h h' : AH} {w w' : World} (e : Ext ι h w ι' h' w') (hm : ∀ b I, ι b = some I → h.mut b = true → False) : Grew w w' :=
  ⟨e.size, fun B hB => e.frame B hB fun b I hb hmut => (hm b I hb hmut).elim, e.os, e.tape, e.output⟩

theorem draw_step (hE : E.Fine) (hr : RecOk E.P r) (hk : Keeps r) (c : DCtx E r N ops t h tt hh vv) (hT0 : TRel ι₀ N t a₀) (hR0 : HRel ι₀ h w₀)
    (inv : DInv N ops t h hh vv ι₀ w₀ listed a w ι lo hi) {j : Nat} (hready : j ∈ Region.ready .any ops listed) {Qx : Exit → Act → World → Prop} :
    wpOp E.P ops Qx j (fun a' w' => ∃ ι' lo' hi', DInv N ops t h hh vv ι₀ w₀ (listed.setIfInBounds j true) a' w' ι' lo' hi') a w := by
  have hfit : ∀ b I, ι₀ b = some I → b < h.n := fun b I hb => hR0.lt hb
  obtain ⟨hun', o, ho, hed⟩ := ready_iff.1 hready
  have hj : j < ops.size := (Array.getElem?_eq_some_iff.1 ho).1
  have hun : listed.getD j false = false := by rw [getD_of_lt (by rw [inv.sz]; exact hj) false true]; exact hun'
  have hslot : ∀ d ∈ looks ops.toList o, VRel (ι.cut (hh j).n) (tt j d) (a.tmps.getD d undef) := fun d hd => slot_rel hE hk c hT0 hfit inv ho hun hed hd
  have hw : Region.wanted o (yielded ops a.tmps) = wantedA ops.toList (tt j) o := wanted_slot hslot
  have hsel := c.facts.sel j o (by simpa using ho)
  have hnn : (hh j).n ≤ (hh (j + 1)).n := c.n_mono hE hk (by omega) (by omega)
  have hpos := fun hhe => pos_quiet c inv ho hun hed hhe
  unfold wpOp
  simp only [ho]
  rw [hw]
  -- nothing in memory has come or gone: the invariant goes on
  have quietly : ∀ (v' : Value) (w' : World), hh (j + 1) = hh j → VRel (ι.cut (hh j).n) (vv j) v' → Grew w w' →
      ∃ ι' lo' hi', DInv N ops t h hh vv ι₀ w₀ (listed.setIfInBounds j true) (a.put o.dst v') w' ι' lo' hi' := by
    intro v' w' hsame hv g
    have hinb : ∀ b I, ι b = some I → I.B < w'.heap.size := fun b I hb => Nat.lt_of_lt_of_le (inv.inb b I hb) g.size
    by_cases hb : heapOp o = true ∧ bar ops j = true
    · obtain ⟨rfl, _⟩ := (hpos hb.1).2.2 hb.2
      obtain ⟨r1, r2⟩ := inv.rel j inv.lohi.1 (Nat.le_refl _)
      have hcut : ι.cut (hh j).n = ι := by
        funext b
        unfold Inj.cut
        split
        · rfl
        · rename_i hge; exact (none_from_hi c inv b (by omega)).symm
      rw [hcut] at r1 r2 hv
      obtain ⟨lo', hi', hinv⟩ := inv.pass hE hk c ho hun hed hb.1 hb.2 (Inj.le_refl ι) hv (fun _ _ => rfl) (by rw [hsame]; exact r1.grew g) (by rw [hsame]; exact r2.grew g)
      exact ⟨ι, lo', hi', hinv⟩
    · have hq : heapOp o = true → bar ops j = false := fun h1 => by
        cases hbb : bar ops j with
        | false => rfl
        | true => exact absurd ⟨h1, hbb⟩ hb
      refine ⟨ι, lo, hi, inv.stay hE hk c ho hun hed hq (Inj.le_refl ι) (by rw [hsame]; exact hv) (fun _ _ => rfl) hinb (fun k h1 h2 => ?_)⟩
      obtain ⟨r1, r2⟩ := inv.rel k h1 h2
      exact ⟨r1.grew g, r2.grew g⟩
  rcases (c.step j o ho).run with ⟨hwa, hc, h', hs, e⟩ | ⟨hwa, hc, hs⟩ | ⟨hwa, hv, e⟩
  · -- a quiet operation
    rw [if_pos hwa]
    refine .inl ?_
    have hhe : heapOp o = true := by simp only [Bool.and_eq_true] at hc; exact hc.1
    have hbar : bar ops j = false := by simp only [Bool.and_eq_true, Bool.not_eq_true'] at hc; exact hc.2
    have hlo : lo ≤ j := (hpos hhe).1
    have hhi : j < hi := (hpos hhe).2.1 hbar
    obtain ⟨t', a', hT', heq, hcon⟩ := operands_only (N := N) inv.size hsel hslot
    obtain ⟨r1, r2⟩ := inv.rel j hlo (by omega)
    have hs' : (astep E r o t' (hh j).shut).Sat (fun x => x.1 = vv j ∧ x.2 = h') := by rw [← hcon, hs]; exact ⟨rfl, rfl⟩
    have r1' : HRel (ι.cut (hh j).n) (hh j).shut w := ⟨r1.fit, r1.blk, r1.inb, r1.apart⟩
    refine step_sound hE hr hT' r1' heq hs' ?_
    rintro v h₁ v' w' ι'' ⟨rfl, rfl⟩ hv hH he
    have hmut : ∀ b I, ι.cut (hh j).n b = some I → (hh j).shut.mut b = true → False := fun b I hb hm => by
      have h1 := (cut_some.1 hb).1
      have h2 := (mut_wr hm).2
      simp only [AH.shut] at h2
      omega
    have g := grew_of_ext he hmut
    have hn1 : (hh (j + 1)).n = h₁.n := by rw [e]; rfl
    have hb1 : ∀ b, (hh (j + 1)).b b = h₁.b b := fun b => by rw [e]; rfl
    -- the new injection
    let ι' : Inj := fun b => if b < (hh (j + 1)).n then ι'' b else ι b
    have hin : ∀ b, (hh j).n ≤ b → b < (hh (j + 1)).n → ι b = none := fun b h1 h2 => inv.gap j hj hun b h1 h2
    have hold : ∀ b, b < (hh j).n → ι'' b = ι b := fun b hb => by
      cases hib : ι b with
      | some I => exact he.le b I (cut_some.2 ⟨hb, hib⟩)
      | none =>
        cases hi2 : ι'' b with
        | none => rfl
        | some I =>
          have := he.new b I hi2 (by unfold Inj.cut; rw [if_pos hb]; exact hib)
          simp only [AH.shut] at this
          omega
    have hother : ∀ b, b < (hh j).n ∨ (hh (j + 1)).n ≤ b → ι' b = ι b := fun b hb => by
      simp only [ι']
      rcases hb with hb | hb
      · rw [if_pos (by omega)]; exact hold b hb
      · rw [if_neg (by omega)]
    have hle : ι.le ι' := fun b I hb => by
      rcases Nat.lt_or_ge b (hh j).n with h1 | h1
      · rw [hother b (.inl h1)]; exact hb
      · rcases Nat.lt_or_ge b (hh (j + 1)).n with h2 | h2
        · rw [hin b h1 h2] at hb; cases hb
        · rw [hother b (.inr h2)]; exact hb
    have hcut1 : ι'.cut (hh (j + 1)).n = ι'' := by
      funext b
      unfold Inj.cut
      simp only [ι']
      split
      · rfl
      · rename_i hge; exact (hH.fit b (by omega)).symm
    have hinb' : ∀ b I, ι' b = some I → I.B < w'.heap.size := fun b I hb => by
      simp only [ι'] at hb
      split at hb
      · exact hH.inb b I hb
      · exact Nat.lt_of_lt_of_le (inv.inb b I hb) g.size
    refine ⟨ι', lo, hi, inv.stay hE hk c ho hun hed (fun _ => hbar) hle (by rw [hcut1]; exact hv) hother hinb' (fun k h1 h2 => ?_)⟩
    obtain ⟨q1, q2⟩ := inv.rel k h1 h2
    have hkm : k ≤ ops.size := Nat.le_trans h2 inv.lohi.2
    rcases Nat.lt_or_ge j k with hjk | hjk
    · -- behind the operation, in the text
      have hnk : (hh (j + 1)).n ≤ (hh k).n := c.n_mono hE hk (by omega) hkm
      have hsame : ∀ b, b < (hh (j + 1)).n → (hh k).b b = h₁.b b := fun b hb => by
        rw [← hb1]; exact c.phase hE hk inv.lohi.2 inv.mid (by omega) hjk h2 b hb
      have parts : ∀ b I, ι'.cut (hh k).n b = some I → ((b < (hh j).n ∨ (hh (j + 1)).n ≤ b) ∧ ι.cut (hh k).n b = some I) ∨ ((hh j).n ≤ b ∧ b < (hh (j + 1)).n ∧ ι'' b = some I) := fun b I hb => by
        obtain ⟨hb1', hb2⟩ := cut_some.1 hb
        by_cases hr' : (hh j).n ≤ b ∧ b < (hh (j + 1)).n
        · right
          refine ⟨hr'.1, hr'.2, ?_⟩
          simp only [ι', if_pos hr'.2] at hb2
          exact hb2
        · left
          have : b < (hh j).n ∨ (hh (j + 1)).n ≤ b := by omega
          exact ⟨this, cut_some.2 ⟨hb1', by rw [← hother b this]; exact hb2⟩⟩
      have nmut : ∀ b I, ι.cut (hh j).n b = some I → (hh j).shut.mut b = true → False := hmut
      have newB : ∀ b I, (hh j).n ≤ b → b < (hh (j + 1)).n → ι'' b = some I → ((hh k).b b).live = true → w.heap.size ≤ I.B := fun b I hb1' hb2 hb3 hl => by
        rw [hsame b hb2] at hl
        rcases he.fresh b I hb3 (by unfold Inj.cut; rw [if_neg (by omega)]) hl with h3 | ⟨b₀, I₀, h3, h4, _⟩
        · exact h3
        · exact (nmut b₀ I₀ h3 h4).elim
      refine ⟨⟨fun b hb => by unfold Inj.cut; rw [if_neg (by omega)], fun b I hb => ?_, fun b I hb => hinb' b I (cut_some.1 hb).2, fun b₁ b₂ I₁ I₂ hb1' hb2' hne hw1 hl2 => ?_⟩, ?_⟩
      · rcases parts b I hb with ⟨_, hb'⟩ | ⟨p1, p2, p3⟩
        · rw [g.same _ (q1.inb b I hb')]
          exact (q1.blk b I hb').mono (cut_mono hle (Nat.le_refl _))
        · rw [hsame b p2]
          refine (hH.blk b I p3).mono ?_
          rw [← hcut1]; exact cut_mono (Inj.le_refl _) hnk
      · rcases parts b₁ I₁ hb1' with ⟨_, hb1''⟩ | ⟨p1, p2, p3⟩
        · rcases parts b₂ I₂ hb2' with ⟨_, hb2''⟩ | ⟨s1, s2, s3⟩
          · exact q1.apart b₁ b₂ I₁ I₂ hb1'' hb2'' hne hw1 hl2
          · have h3 := newB b₂ I₂ s1 s2 s3 hl2
            have h4 := q1.inb b₁ I₁ hb1''
            omega
        · rcases parts b₂ I₂ hb2' with ⟨_, hb2''⟩ | ⟨s1, s2, s3⟩
          · have h3 := newB b₁ I₁ p1 p2 p3 (wr_live hw1)
            have h4 := q1.inb b₂ I₂ hb2''
            omega
          · rw [hsame b₁ p2] at hw1
            rw [hsame b₂ s2] at hl2
            exact hH.apart b₁ b₂ I₁ I₂ p3 s3 hne hw1 hl2
      · exact {
          le := Inj.le_trans q2.le (cut_mono hle (Nat.le_refl _))
          n_le := q2.n_le
          size := Nat.le_trans q2.size g.size
          lim := q2.lim
          wr := q2.wr
          live := q2.live
          new := fun b I hb hb0 => by
            rcases parts b I hb with ⟨_, hb'⟩ | ⟨p1, p2, p3⟩
            · exact q2.new b I hb' hb0
            · have := c.n_mono hE hk (Nat.zero_le j) (by omega); rw [c.h0] at this; omega
          fresh := fun b I hb hb0 hl => by
            rcases parts b I hb with ⟨_, hb'⟩ | ⟨p1, p2, p3⟩
            · exact q2.fresh b I hb' hb0 hl
            · exact .inl (Nat.le_trans q2.size (newB b I p1 p2 p3 hl))
          frame := fun B hB hn => by rw [g.same B (Nat.lt_of_lt_of_le hB q2.size)]; exact q2.frame B hB hn
          os := g.os.trans q2.os
          tape := g.tape.trans q2.tape
          output := g.output.trans q2.output }
    · -- ahead of it, in the text
      have hnk : (hh k).n ≤ (hh j).n := c.n_mono hE hk hjk (by omega)
      have : ι'.cut (hh k).n = ι.cut (hh k).n := by
        funext b
        unfold Inj.cut
        split
        · exact hother b (.inl (by omega))
        · rfl
      rw [this]
      exact ⟨q1.grew g, q2.grew g⟩
  · -- one that looks at no memory, or a barrier
    rw [if_pos hwa]
    refine .inl ?_
    obtain ⟨t', a', hT', heq, hcon⟩ := operands_only (N := N) inv.size hsel hslot
    cases hhe : heapOp o with
    | false =>
      have hsame := c.nonheap ho hhe
      let hd : AH := ⟨(hh j).n, 0, fun _ => .dead⟩
      have hs2 := (nonheap_indep hhe hs).2 hd
      have hs' : (astep E r o t' hd).Sat (fun x => x.1 = vv j ∧ x.2 = hd) := by rw [← hcon, hs2]; exact ⟨rfl, rfl⟩
      have r1' : HRel (ι.cut (hh j).n) hd w := ⟨fun b hb => by unfold Inj.cut; rw [if_neg (by simp only [hd] at hb; omega)], fun _ _ _ => trivial, fun b I hb => inv.inb b I (cut_some.1 hb).2,
        fun _ _ _ _ _ _ _ hw1 _ => by cases hw1⟩
      refine step_sound hE hr hT' r1' heq hs' ?_
      rintro v h₁ v' w' ι'' ⟨rfl, rfl⟩ hv hH he
      have g : Grew w w' := grew_of_ext he fun b I hb hm => by have := (mut_wr hm).1; cases this
      have hι : ι''.le (ι.cut (hh j).n) := fun b I hb => by
        cases hc' : ι.cut (hh j).n b with
        | some J => have := he.le b J hc'; rw [hb] at this; exact this.symm
        | none =>
          have h1 := he.new b I hb hc'
          have h2 := hH.lt hb
          simp only [hd] at h1 h2
          omega
      exact quietly v' w' hsame (hv.mono hι) g
    | true =>
      have hbar : bar ops j = true := by
        rw [hhe] at hc
        simpa [bar] using hc
      obtain ⟨rfl, hall⟩ := (hpos hhe).2.2 hbar
      obtain ⟨r1, r2⟩ := inv.rel j inv.lohi.1 (Nat.le_refl _)
      have hs' : (astep E r o t' (hh j)).Sat (fun x => x.1 = vv j ∧ x.2 = hh (j + 1)) := by rw [← hcon, hs]; exact ⟨rfl, rfl⟩
      refine step_sound hE hr hT' r1 heq hs' ?_
      rintro v h₁ v' w' ι'' ⟨rfl, rfl⟩ hv hH he
      have hcut : ι.cut (hh j).n = ι := by
        funext b
        unfold Inj.cut
        split
        · rfl
        · rename_i hge; exact (none_from_hi c inv b (by omega)).symm
      have hold : ∀ b, b < (hh j).n → ι'' b = ι b := fun b hb => by
        cases hib : ι b with
        | some I => exact he.le b I (cut_some.2 ⟨hb, hib⟩)
        | none =>
          cases hi2 : ι'' b with
          | none => rfl
          | some I =>
            have := he.new b I hi2 (by unfold Inj.cut; rw [if_pos hb]; exact hib)
            omega
      obtain ⟨lo', hi', hinv⟩ := inv.pass hE hk c ho hun hed hhe hbar (by rw [← hcut]; exact he.le) hv hold hH (Ext.trans hR0 r1 r2 he)
      exact ⟨ι'', lo', hi', hinv⟩
  · -- its guard says no
    rw [if_neg (by rw [hwa]; simp)]
    exact quietly undef w e (by rw [hv]; exact undef_rel _) (Grew.refl w)

def cnt (listed : Array Bool) (m : Nat) : Nat := (List.range m).countP (fun i => !listed.getD i false)

theorem cnt_set {listed : Array Bool} {i : Nat} (hi : i < listed.size) (hun : listed.getD i false = false) : ∀ m, (i < m → cnt (listed.setIfInBounds i true) m + 1 = cnt listed m) ∧ (m ≤ i → cnt (listed.setIfInBounds i true) m = cnt listed m)
  | 0 => ⟨fun h => by omega, fun _ => rfl⟩
  | m + 1 => by
    obtain ⟨ih1, ih2⟩ := cnt_set hi hun m
    have step : ∀ l : Array Bool, cnt l (m + 1) = cnt l m + (if l.getD m false = true then 0 else 1) := fun l => by
      unfold cnt
      rw [List.range_succ, List.countP_append]
      congr 1
      rw [List.countP_cons, List.countP_nil]
      cases hl : l.getD m false <;> rfl
    rw [step, step, listed_set false hi]
    refine ⟨fun h => ?_, fun h => ?_⟩
    · by_cases e : m = i
      · subst e
        rw [ih2 (Nat.le_refl _), if_pos rfl, hun]; simp
      · rw [if_neg e]
        have := ih1 (by omega)
        omega
    · have e : m ≠ i := by omega
      simp only [e, if_false, ih2 (by omega)]

theorem cnt_zero {listed : Array Bool} {m : Nat} (h : cnt listed m = 0) {i : Nat} (hi : i < m) : listed.getD i false = true := by
  unfold cnt at h
  rw [List.countP_eq_zero] at h
  have := h i (List.mem_range.2 hi)
  simpa using this

/-- all have come up -/
theorem draw_done (hE : E.Fine) (hk : Keeps r) (c : DCtx E r N ops t h tt hh vv) (hT0 : TRel ι₀ N t a₀) (hR0 : HRel ι₀ h w₀)
    (inv : DInv N ops t h hh vv ι₀ w₀ listed a w ι lo hi) (hall : ∀ i, i < ops.size → listed.getD i false = true) {Q : Exit → T → AH → Prop} (hq : Q .normal (tt ops.size) (hh ops.size)) :
    Post ι₀ N h w₀ Q .normal a w := by
  have hfit : ∀ b I, ι₀ b = some I → b < h.n := fun b I hb => hR0.lt hb
  have hhi : hi = ops.size := by
    rcases inv.end_ with e | ⟨o, ho, hhe, _⟩
    · exact e
    · have h1 := inv.high hi o ho hhe (Nat.le_refl _)
      have h2 := hall hi (Array.getElem?_eq_some_iff.1 ho).1
      rw [h1] at h2; cases h2
  subst hhi
  obtain ⟨r1, r2⟩ := inv.rel ops.size inv.lohi.1 (Nat.le_refl _)
  refine ⟨tt ops.size, hh ops.size, ι.cut (hh ops.size).n, hq, ⟨inv.size, inv.defers, fun d => ?_⟩, r1, r2⟩
  have hle := le_cut hE hk c hfit inv.le0 (Nat.le_refl ops.size)
  obtain ⟨v1, v2⟩ := c.tt_val (d := d) ops.size (Nat.le_refl _)
  by_cases hN : d < N
  · by_cases hw : ∃ (i : Nat) (o' : Oper), ops[i]? = some o' ∧ o'.dst = some d
    · obtain ⟨i, o', hi', hd'⟩ := hw
      have hlt := (Array.getElem?_eq_some_iff.1 hi').1
      rw [v1 i o' hi' hlt hd' hN]
      exact (inv.val i o' d hi' (hall i hlt) hd' hN).mono (cut_mono (Inj.le_refl ι) (c.n_mono hE hk (by omega) (Nat.le_refl _)))
    · have hno : ∀ (i : Nat) (o' : Oper), ops[i]? = some o' → o'.dst ≠ some d := fun i o' h1 h2 => hw ⟨i, o', h1, h2⟩
      rw [v2 (.inl fun i o' h1 _ => hno i o' h1)]
      exact (inv.base d fun i o' h1 h2 => absurd h2 (hno i o' h1)).mono hle
  · rw [v2 (.inr (by omega))]
    have e1 : a.tmps.getD d undef = undef := by
      have : a.tmps.size ≤ d := by rw [inv.size]; omega
      simp [this]
    have e2 : a₀.tmps.getD d undef = undef := by
      have : a₀.tmps.size ≤ d := by rw [hT0.size]; omega
      simp [this]
    rw [e1, ← e2]
    exact (hT0.rel d).mono hle

theorem all_of_ready (c : DCtx E r N ops t h tt hh vv) (inv : DInv N ops t h hh vv ι₀ w₀ listed a w ι lo hi) (hr : Region.ready .any ops listed = []) : ∀ i, i < ops.size → listed.getD i false = true := by
  intro i
  induction i using Nat.strongRecOn with
  | _ i ih =>
    intro hi
    have ho : ops[i]? = some (ops[i]'hi) := by simp [hi]
    cases hl : listed.getD i false with
    | true => rfl
    | false =>
      have hlt := c.facts.edge i _ (by rw [Array.getElem?_toList]; exact ho)
      have : i ∈ Region.ready .any ops listed := ready_iff.2 ⟨by rw [getD_of_lt (by rw [inv.sz]; exact hi) true false]; exact hl, _, ho, fun e he => ih e (hlt e he) (by have := hlt e he; omega)⟩
      rw [hr] at this; cases this

theorem draw_any (hE : E.Fine) (hr : RecOk E.P r) (hk : Keeps r) (c : DCtx E r N ops t h tt hh vv) (hT0 : TRel ι₀ N t a₀) (hR0 : HRel ι₀ h w₀) {Q : Exit → T → AH → Prop} (hq : Q .normal (tt ops.size) (hh ops.size)) :
    ∀ (fuel : Nat) (listed : Array Bool) (a : Act) (w : World) (ι : Inj) (lo hi : Nat), DInv N ops t h hh vv ι₀ w₀ listed a w ι lo hi → cnt listed ops.size ≤ fuel →
      wpAny E.P .any ops (Post ι₀ N h w₀ Q) fuel listed a w
  | 0, listed, a, w, ι, lo, hi, inv, hf => by
    have hall : ∀ i, i < ops.size → listed.getD i false = true := fun i hi' => cnt_zero (by omega) hi'
    refine ⟨?_, draw_done hE hk c hT0 hR0 inv hall hq⟩
    rw [List.eq_nil_iff_forall_not_mem]
    intro j hj
    obtain ⟨h1, o, ho, _⟩ := ready_iff.1 hj
    have hlt := (Array.getElem?_eq_some_iff.1 ho).1
    rw [getD_of_lt (by rw [inv.sz]; exact hlt) true false, hall j hlt] at h1
    cases h1
  | fuel + 1, listed, a, w, ι, lo, hi, inv, hf => by
    refine ⟨fun hnil => draw_done hE hk c hT0 hR0 inv (all_of_ready c inv hnil) hq, fun j hj => ?_⟩
    refine wpOp_mono (fun a' w' => ?_) (draw_step hE hr hk c hT0 hR0 inv hj)
    rintro ⟨ι', lo', hi', inv'⟩
    obtain ⟨h1, o, ho, _⟩ := ready_iff.1 hj
    have hlt := (Array.getElem?_eq_some_iff.1 ho).1
    have hls : j < listed.size := by rw [inv.sz]; exact hlt
    have := (cnt_set hls (by rw [getD_of_lt hls false true]; exact h1) ops.size).1 hlt
    exact draw_any hE hr hk c hT0 hR0 hq fuel _ a' w' ι' lo' hi' inv' (by omega)

end

theorem draw_sound {E : Env} (hE : E.Fine) : DrawSound E := by
  intro r hr hk N id ops t h Q hok hs ι a w hT hR
  refine wp_region_any hE.ok.mixed ?_
  obtain ⟨tt, hh, vv, e1, e2, e3, e4⟩ := trace_of ops.toList 0 t h rfl (Nat.zero_le _) hs
  have hlen : ops.toList.length = ops.size := by simp
  rw [hlen] at e4
  have c : DCtx E r N ops t h tt hh vv := ⟨drawFacts hok, e1, e2, fun j o ho => e3 j o (Nat.zero_le _) (by simpa using ho)⟩
  obtain ⟨hi, h1, h2, h3, h4⟩ := next_bar ops ops.size 0 (by omega)
  have hR' : HRel ι h { w with drawn := w.drawn + 1 } := hR.of_heap rfl
  have he' : Ext ι h w ι h { w with drawn := w.drawn + 1 } := (Ext.refl ι h w).of_heap rfl rfl rfl rfl
  have hsz : (Array.replicate ops.size false).size = ops.size := by simp
  have hno : ∀ i, (Array.replicate ops.size false).getD i false = false := fun i => by
    rw [Array.getD_eq_getD_getElem?, Array.getElem?_replicate]
    split <;> rfl
  have hcut : ∀ k, k ≤ ops.size → ι.cut (hh k).n = ι := fun k hkk => by
    funext b
    unfold Inj.cut
    split
    · rfl
    · rename_i hge
      refine (hR.fit b ?_).symm
      have := c.n_mono hE hk (Nat.zero_le k) hkk
      rw [c.h0] at this
      omega
  have listed0 : ∀ i, (Array.replicate ops.size false).getD i false = true → False := fun i hl => by rw [hno] at hl; cases hl
  refine draw_any hE hr hk c hT hR e4 ops.size _ a _ ι 0 hi { sz := hsz, closed := fun i o _ hl => (listed0 i hl).elim, size := hT.size, defers := hT.defers, val := fun i o d _ hl => (listed0 i hl).elim, base := fun d _ => hT.rel d, le0 := Inj.le_refl ι, gap := fun j hj _ b hb1 _ => hR.fit b ?_, top := fun b hb => hR.fit b ?_, inb := fun b I hb => hR'.inb b I hb, lohi := ⟨h1, h2⟩, low := fun i o _ _ hlt => by omega, high := fun i o _ _ _ => hno i, mid := h3, end_ := h4, rel := fun k hk1 hk2 => ?_ } ?_
  · have := c.n_mono hE hk (Nat.zero_le j) (by omega); rw [c.h0] at this; omega
  · have := c.n_mono hE hk (Nat.zero_le ops.size) (Nat.le_refl _); rw [c.h0] at this; omega
  · have hk3 : k ≤ ops.size := by omega
    rw [hcut k hk3]
    have hsame := c.phase hE hk h2 h3 (Nat.le_refl 0) (Nat.zero_le k) hk2
    have hn := c.n_mono hE hk (Nat.zero_le k) hk3
    have hl := c.lim hE hk (Nat.zero_le k) hk3
    rw [c.h0] at hsame hn hl
    exact ⟨hR'.swap hn hsame, he'.swap hR' hn hl hsame⟩
  · unfold cnt
    exact Nat.le_trans List.countP_le_length (by simp)

theorem aexec_sound {E : Env} (hE : E.Fine) : ∀ n, RecOk E.P (aexec E n)
  | 0 => fun _ _ _ _ _ hs => hs.elim
  | n + 1 => body_sound hE (draw_sound hE) (aexec_sound hE n) (aexec_keeps hE n) n

/-- the contract of a function, by a run of the abstract machine -/
theorem acalls_run {E : Env} (hE : E.Fine) (n : Nat) {g : FuncId} {args : List Value} {h : AH} {Q : Value → AH → Prop} (hs : (acall E (aexec E n) g args h).Sat (fun x => Q x.1 x.2)) :
    Entered E.P g ∧ ACalls E.P g args h Q := acall_sound hE (aexec_sound hE n) hs

end Go.AM
