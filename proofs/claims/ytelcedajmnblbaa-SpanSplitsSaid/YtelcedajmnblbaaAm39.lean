/-
  AM, part 39: nil slices as slices without room.
-/
import Derived.Test.YtelcedajmnblbaaAm38
set_option linter.unusedVariables false
set_option linter.unusedSimpArgs false
namespace Go.AM

/-- who is right from the second state on is right from the first one on -/
def Weak (P : Program) (N : Nat) (t : T) (h : AH) (t2 : T) (h2 : AH) : Prop := ∀ c Q, AWP P N c t2 h2 Q → AWP P N c t h Q
theorem Weak.refl (P : Program) (N : Nat) (t : T) (h : AH) : Weak P N t h t h := fun _ _ hw => hw
theorem Weak.trans {P : Program} {N : Nat} {t t2 t3 : T} {h h2 h3 : AH} (a : Weak P N t h t2 h2) (b : Weak P N t2 h2 t3 h3) : Weak P N t h t3 h3 := fun c Q hw => a c Q (b c Q hw)

/-- another memory that says the same of what there is -/
theorem Ext.src {ι ι' : Inj} {h h2 h' : AH} {w w' : World} (hr : HRel ι h w) (hn : h.n ≤ h2.n) (hlim : h2.lim = h.lim) (hw : ∀ b, b < h.n → (h2.b b).wr = (h.b b).wr) (hl : ∀ b, b < h.n → (h2.b b).live = (h.b b).live)
    (e : Ext ι h2 w ι' h' w') : Ext ι h w ι' h' w' := by
  have hlt : ∀ {b : Nat} {I : Img}, ι b = some I → b < h.n := fun {b I} hb => by
    rcases Nat.lt_or_ge b h.n with h1 | h1
    · exact h1
    · rw [hr.fit b h1] at hb; cases hb
  have hm : ∀ {b : Nat} {I : Img}, ι b = some I → h2.mut b = h.mut b := fun {b I} hb => by simp only [AH.mut, hw b (hlt hb), hlim]
  refine ⟨e.le, Nat.le_trans hn e.n_le, e.size, e.lim.trans hlim, fun b hb hx => ?_, fun b hb hx => ?_, fun b I hb hn' => Nat.le_trans hn (e.new b I hb hn'), fun b I hb hn' hx => ?_, fun B hB hf => ?_, e.os, e.tape, e.output⟩
  · rw [← hw b hb]; exact e.wr b (Nat.lt_of_lt_of_le hb hn) hx
  · rw [← hl b hb]; exact e.live b (Nat.lt_of_lt_of_le hb hn) hx
  · rcases e.fresh b I hb hn' hx with q | ⟨b₀, I₀, q1, q2, q3⟩
    · exact .inl q
    · exact .inr ⟨b₀, I₀, q1, by rw [← hm q1]; exact q2, q3⟩
  · exact e.frame B hB fun b I hb hx => hf b I hb (by rw [← hm hb]; exact hx)

theorem Weak.of {P : Program} {N : Nat} {t t2 : T} {h h2 : AH} (ht : ∀ ι a, TRel ι N t a → TRel ι N t2 a) (hr : ∀ ι w, HRel ι h w → HRel ι h2 w) (hn : h.n ≤ h2.n) (hlim : h2.lim = h.lim)
    (hw : ∀ b, b < h.n → (h2.b b).wr = (h.b b).wr) (hl : ∀ b, b < h.n → (h2.b b).live = (h.b b).live) : Weak P N t h t2 h2 := by
  intro c Q hx ι a w hT hR
  refine Code.wp_mono (fun e a' w' hp => ?_) (hx ι a w (ht ι a hT) (hr ι w hR))
  obtain ⟨t', h', ι', q, r1, r2, r3⟩ := hp
  exact ⟨t', h', ι', q, r1, r2, Ext.src hR hn hlim hw hl r3⟩

theorem push_old {h : AH} {k : ABlk} {b : Nat} (hb : b < h.n) : (h.push k).b b = h.b b := by simp [AH.push, Nat.ne_of_lt hb]

theorem Weak.ghost {P : Program} {N : Nat} {t : T} {h : AH} {i : Nat} (hi : t i = .slice none 0 0) (k : ABlk) : Weak P N t h (T.upd t i (.slice (some ⟨h.n, 0, none⟩) 0 0)) (h.push k) := by
  refine Weak.of (fun ι a hT => ⟨hT.size, hT.defers, fun j => ?_⟩) (fun ι w hR => hR.ghost k) (Nat.le_succ _) rfl (fun b hb => by rw [push_old hb]) (fun b hb => by rw [push_old hb])
  by_cases e : j = i
  · subst e
    simp only [T.upd, if_true]
    have := hT.rel j
    rw [hi] at this
    generalize a.tmps.getD j undef = v at this ⊢
    cases this
    exact .xslice
  · simp only [T.upd, e, if_false]
    exact hT.rel j

theorem Weak.ghostCell {P : Program} {N : Nat} {t : T} {h : AH} {b j : Nat} {c : List Value} {es : Nat} {wr ex : Bool} (hb : h.b b = .cells c es wr ex) (hlt : b < h.n) (hj : c[j]? = some (.slice none 0 0)) (k : ABlk) :
    Weak P N t h t ((h.upd b (.cells (c.set j (.slice (some ⟨h.n, 0, none⟩) 0 0)) es wr ex)).push k) := by
  have hup : ∀ b', ((h.upd b (.cells (c.set j (.slice (some ⟨h.n, 0, none⟩) 0 0)) es wr ex)).b b').wr = (h.b b').wr ∧ ((h.upd b (.cells (c.set j (.slice (some ⟨h.n, 0, none⟩) 0 0)) es wr ex)).b b').live = (h.b b').live := fun b' => by
    simp only [AH.upd]
    split
    · rename_i e; subst e; rw [hb]; exact ⟨rfl, rfl⟩
    · exact ⟨rfl, rfl⟩
  refine Weak.of (fun ι a hT => hT) (fun ι w hR => HRel.ghost (h := h.upd b _) ⟨hR.fit, fun b' I hI => ?_, hR.inb, fun b₁ b₂ I₁ I₂ q1 q2 q3 q4 q5 => ?_⟩ k) (Nat.le_succ _) rfl (fun b' hb' => ?_) (fun b' hb' => ?_)
  · have := hR.blk b' I hI
    simp only [AH.upd]
    split
    · rename_i e
      subst e
      rw [hb] at this
      obtain ⟨r1, r2, c', elem, fr, r3, r4, r5, r6, r7⟩ := this
      refine ⟨r1, r2, c', elem, fr, r3, r4, by simpa using r5, r6, fun i v hv => ?_⟩
      rw [List.getElem?_set] at hv
      split at hv
      · rename_i e
        subst e
        split at hv
        · obtain rfl := Option.some.inj hv
          obtain ⟨v', s1, s2⟩ := r7 j _ hj
          cases s2
          exact ⟨_, s1, .xslice⟩
        · cases hv
      · exact r7 i v hv
    · exact this
  · rw [(hup b₁).1] at q4
    rw [(hup b₂).2] at q5
    exact hR.apart b₁ b₂ I₁ I₂ q1 q2 q3 q4 q5
  · rw [push_old (h := h.upd b _) hb']; exact (hup b').1
  · rw [push_old (h := h.upd b _) hb']; exact (hup b').2

/-! ### in the symbolic machine -/
def ghostS (n es : Nat) : S0 := .sl n es (.i 0) (.i 0) (.i 0)

theorem ghostS_den {g : Sg} {H : SH} {h : AH} (hr : SR g H h) (es : Nat) : (ghostS H.n es).den g = .slice (some ⟨h.n, 0, none⟩) 0 0 := by
  have hn := hr.next 0
  simp only [Nat.add_zero] at hn
  simp only [ghostS, S0.den, hn, Sg.N_i]
  simp

def ghost1 (cu : Cut) (st : TS × SH) (p : Nat × Slot) : TS × SH :=
  match p.2 with
  | .row j => match st.1 p.1, cu.news[j]? with
    | .one (.one (.cst .nilSlice)), some r => (st.1.upd p.1 (s0 (ghostS st.2.n r.ks.length)), st.2.push (.row .nil r.ks r.wr r.ex))
    | _, _ => st
  | _ => st

def ghostC (cu : Cut) (b : Nat) (H : SH) (p : Nat × Slot) : SH :=
  match p.2, H.b b with
  | .row j, .cells l es true ex => match l[p.1]?, cu.news[j]? with
    | some (.cst .nilSlice), some r => if b < H.n then (H.upd b (.cells (l.set p.1 (ghostS H.n r.ks.length)) es true ex)).push (.row .nil r.ks r.wr r.ex) else H
    | _, _ => H
  | _, _ => H

def numbered {α : Type} : Nat → List α → List (Nat × α)
  | _, [] => []
  | i, a :: l => (i, a) :: numbered (i + 1) l

def ghostAll (cu : Cut) (st : TS × SH) : TS × SH :=
  let st1 := cu.slots.foldl (ghost1 cu) st
  (st1.1, cu.cells.foldl (fun H p => (numbered 0 p.2).foldl (ghostC cu p.1) H) st1.2)

theorem ghost1_sound {P : Program} {N : Nat} {cu : Cut} {g : Sg} {st : TS × SH} {t : T} {h : AH} (ht : TR g st.1 t) (hr : SR g st.2 h) (p : Nat × Slot) :
    ∃ t2 h2, Weak P N t h t2 h2 ∧ TR g (ghost1 cu st p).1 t2 ∧ SR g (ghost1 cu st p).2 h2 := by
  unfold ghost1
  split
  · rename_i j hp
    split
    · rename_i r h1 h2
      refine ⟨_, _, Weak.ghost (i := p.1) (by rw [ht p.1, h1]; rfl) ((SB.row .nil r.ks r.wr r.ex).den g), fun i => ?_, hr.push _⟩
      simp only [T.upd, TS.upd]
      split
      · exact (ghostS_den hr _).symm
      · exact ht i
    · exact ⟨t, h, Weak.refl _ _ _ _, ht, hr⟩
  · exact ⟨t, h, Weak.refl _ _ _ _, ht, hr⟩

theorem ghostC_sound {P : Program} {N : Nat} {cu : Cut} {g : Sg} {H : SH} {t : T} {h : AH} (hr : SR g H h) (b : Nat) (p : Nat × Slot) :
    ∃ h2, Weak P N t h t h2 ∧ SR g (ghostC cu b H p) h2 := by
  unfold ghostC
  split
  · rename_i j l es ex hp hk
    split
    · rename_i r h1 h2
      split
      · rename_i hb
        obtain ⟨q1, q2⟩ := hr.blk b hb (by rw [hk]; rfl)
        rw [hk] at q1
        have hu := hr.upd hb (by rw [hk]; rfl) (.cells (l.set p.1 (ghostS H.n r.ks.length)) es true ex)
        have e : (SB.cells (l.set p.1 (ghostS H.n r.ks.length)) es true ex).den g = .cells ((dens g l).set p.1 (.slice (some ⟨h.n, 0, none⟩) 0 0)) es true ex := by
          simp only [SB.den, dens, List.map_set, ghostS_den hr]
        rw [e] at hu
        refine ⟨_, Weak.ghostCell (b := g.σ b) (j := p.1) q1 q2 (by simp [dens, h1, S0.den, Cst.val]) ((SB.row .nil r.ks r.wr r.ex).den g), hu.push _⟩
      · exact ⟨h, Weak.refl _ _ _ _, hr⟩
    · exact ⟨h, Weak.refl _ _ _ _, hr⟩
  · exact ⟨h, Weak.refl _ _ _ _, hr⟩

theorem ghostAll_sound {P : Program} {N : Nat} {cu : Cut} {g : Sg} {st : TS × SH} {t : T} {h : AH} (ht : TR g st.1 t) (hr : SR g st.2 h) :
    ∃ t2 h2, Weak P N t h t2 h2 ∧ TR g (ghostAll cu st).1 t2 ∧ SR g (ghostAll cu st).2 h2 := by
  have one : ∀ (l : List (Nat × Slot)) (st : TS × SH) (t : T) (h : AH), TR g st.1 t → SR g st.2 h → ∃ t2 h2, Weak P N t h t2 h2 ∧ TR g (l.foldl (ghost1 cu) st).1 t2 ∧ SR g (l.foldl (ghost1 cu) st).2 h2 := by
    intro l
    induction l with
    | nil => intro st t h ht hr; exact ⟨t, h, Weak.refl _ _ _ _, ht, hr⟩
    | cons p l ih =>
      intro st t h ht hr
      obtain ⟨t2, h2, w, a, b⟩ := ghost1_sound (P := P) (N := N) (cu := cu) ht hr p
      obtain ⟨t3, h3, w', a', b'⟩ := ih _ t2 h2 a b
      exact ⟨t3, h3, w.trans w', a', b'⟩
  have two : ∀ (b : Nat) (l : List (Nat × Slot)) (H : SH) (t : T) (h : AH), SR g H h → ∃ h2, Weak P N t h t h2 ∧ SR g (l.foldl (ghostC cu b) H) h2 := by
    intro b l
    induction l with
    | nil => intro H t h hr; exact ⟨h, Weak.refl _ _ _ _, hr⟩
    | cons p l ih =>
      intro H t h hr
      obtain ⟨h2, w, a⟩ := ghostC_sound (P := P) (N := N) (cu := cu) (t := t) hr b p
      obtain ⟨h3, w', a'⟩ := ih _ t h2 a
      exact ⟨h3, w.trans w', a'⟩
  have three : ∀ (l : List (Nat × List Slot)) (H : SH) (t : T) (h : AH), SR g H h → ∃ h2, Weak P N t h t h2 ∧ SR g (l.foldl (fun H p => (numbered 0 p.2).foldl (ghostC cu p.1) H) H) h2 := by
    intro l
    induction l with
    | nil => intro H t h hr; exact ⟨h, Weak.refl _ _ _ _, hr⟩
    | cons p l ih =>
      intro H t h hr
      obtain ⟨h2, w, a⟩ := two p.1 (numbered 0 p.2) H t h hr
      obtain ⟨h3, w', a'⟩ := ih _ t h2 a
      exact ⟨h3, w.trans w', a'⟩
  obtain ⟨t2, h2, w, a, b⟩ := one cu.slots st t h ht hr
  obtain ⟨h3, w', b'⟩ := three cu.cells _ t2 h2 b
  exact ⟨t2, h3, w.trans w', a, b'⟩

end Go.AM
