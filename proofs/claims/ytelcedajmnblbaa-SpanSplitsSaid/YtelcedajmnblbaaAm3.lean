/-
  AM, part 3: what the heap's own steps (a new block, a store, a row given up, a row grown in place) do to the relation.
-/
import Derived.Test.YtelcedajmnblbaaAm2
set_option linter.unusedVariables false
set_option linter.unusedSimpArgs false
namespace Go.AM

theorem HRel.of_heap {ι : Inj} {h : AH} {w w' : World} (hr : HRel ι h w) (he : w'.heap = w.heap) : HRel ι h w' where
  fit := hr.fit
  blk := fun b I hb => by rw [he]; exact hr.blk b I hb
  inb := fun b I hb => by rw [he]; exact hr.inb b I hb
  apart := hr.apart
theorem Ext.of_heap {ι ι' : Inj} {h h' : AH} {w w' w'' : World} (e : Ext ι h w ι' h' w') (he : w''.heap = w'.heap) (ho : w''.os = w'.os) (ht : w''.tape = w'.tape) (hp : w''.output = w'.output) :
    Ext ι h w ι' h' w'' where
  le := e.le
  n_le := e.n_le
  size := by rw [he]; exact e.size
  lim := e.lim
  wr := e.wr
  live := e.live
  new := e.new
  fresh := e.fresh
  frame := fun B hB hn => by rw [he]; exact e.frame B hB hn
  os := ho.trans e.os
  tape := ht.trans e.tape
  output := hp.trans e.output
theorem Ext.of_heap_left {ι ι' : Inj} {h h' : AH} {w w₀ w' : World} (e : Ext ι h w ι' h' w') (he : w₀.heap = w.heap) (ho : w₀.os = w.os) (ht : w₀.tape = w.tape) (hp : w₀.output = w.output) :
    Ext ι h w₀ ι' h' w' where
  le := e.le
  n_le := e.n_le
  size := by rw [he]; exact e.size
  lim := e.lim
  wr := e.wr
  live := e.live
  new := e.new
  fresh := fun b I a c d => by rw [he]; exact e.fresh b I a c d
  frame := fun B hB hn => by rw [he] at hB ⊢; exact e.frame B hB hn
  os := e.os.trans ho.symm
  tape := e.tape.trans ht.symm
  output := e.output.trans hp.symm

theorem BRel.mono {ι ι' : Inj} (hle : ι.le ι') {I : Img} {k : ABlk} {o : Option Obj} (h : BRel ι I k o) : BRel ι' I k o := by
  cases k with
  | dead => trivial
  | cells c es wr ex =>
    obtain ⟨h1, h2, c', elem, fr, h3, h4, h5, h6, h7⟩ := h
    exact ⟨h1, h2, c', elem, fr, h3, h4, h5, h6, fun i v hi => let ⟨v', a, b⟩ := h7 i v hi; ⟨v', a, b.mono hle⟩⟩
  | obj o =>
    obtain ⟨x, hx, hr⟩ := h
    refine ⟨x, hx, ?_⟩
    cases o <;> cases x <;> simp only [ORel] at hr ⊢ <;> try exact hr
    rename_i m s seen st m' s' seen' st'
    refine ⟨hr.1, hr.2.1, hr.2.2.1, ?_⟩
    have h4 := hr.2.2.2
    cases m <;> cases m' <;> simp only at h4 ⊢
    obtain ⟨I, hI, e⟩ := h4
    exact ⟨I, hle _ _ hI, e⟩

/-- a row given up -/
theorem kill_sound {ι : Inj} {h : AH} {w : World} (hr : HRel ι h w) (b : Nat) :
    HRel ι (h.upd b .dead) w ∧ Ext ι h w ι (h.upd b .dead) w := by
  have hw : ∀ x, ((h.upd b .dead).b x).wr = true → (h.b x).wr = true := by
    intro x hx
    simp only [AH.upd] at hx
    split at hx
    · cases hx
    · exact hx
  have hl : ∀ x, ((h.upd b .dead).b x).live = true → (h.b x).live = true := by
    intro x hx
    simp only [AH.upd] at hx
    split at hx
    · cases hx
    · exact hx
  refine ⟨⟨hr.fit, fun x I hx => ?_, hr.inb, fun a c I J ha hc hne h1 h2 => hr.apart a c I J ha hc hne (hw _ h1) (hl _ h2)⟩, ?_⟩
  · simp only [AH.upd]
    split
    · trivial
    · exact hr.blk x I hx
  · exact { Ext.refl ι h w with wr := fun x _ hx => hw x hx, live := fun x _ hx => hl x hx, fresh := fun x I a c => by rw [a] at c; cases c }

/-- a new block of cells -/
theorem push_sound {ι : Inj} {h : AH} {w w' : World} (hr : HRel ι h w) (c : List Value) (c' : Array Value) (elem : TypeId) (es : Nat) (wr ex : Bool)
    (hl : c.length ≤ c'.size) (hc : ∀ (i : Nat) v, c[i]? = some v → ∃ v', c'[i]? = some v' ∧ VRel ι v v')
    (hw : w'.heap = w.heap.push (.cells c' elem)) (ho : w'.os = w.os) (ht : w'.tape = w.tape) (hp : w'.output = w.output) :
    ∃ ι', ι' h.n = some ⟨w.heap.size, 0, c'.size, es, ex⟩ ∧ HRel ι' (h.push (.cells c es wr ex)) w' ∧ Ext ι h w ι' (h.push (.cells c es wr ex)) w' := by
  let I₀ : Img := ⟨w.heap.size, 0, c'.size, es, ex⟩
  let ι' : Inj := fun b => if b = h.n then some I₀ else ι b
  have hn : ι h.n = none := hr.fit _ (Nat.le_refl _)
  have hle : ι.le ι' := fun b I hb => by
    have : b ≠ h.n := fun e => by rw [e, hn] at hb; cases hb
    simp [ι', this, hb]
  have old : ∀ b I, ι' b = some I → b ≠ h.n → ι b = some I := fun b I hb hne => by simpa [ι', hne] using hb
  have new : ∀ I, ι' h.n = some I → I = I₀ := fun I hb => by simpa [ι'] using hb.symm
  have hlt : ∀ b I, ι b = some I → b ≠ h.n := fun b I hb e => by rw [e, hn] at hb; cases hb
  have hold : ∀ B, B < w.heap.size → w'.heap[B]? = w.heap[B]? := fun B hB => by
    rw [hw, Array.getElem?_push, if_neg (by omega)]
  refine ⟨ι', by simp [ι', I₀], ⟨fun b hb => ?_, fun b I hb => ?_, fun b I hb => ?_, fun b₁ b₂ I₁ I₂ h1 h2 hne a d => ?_⟩, ?_⟩
  · have : b ≠ h.n := by simp only [AH.push] at hb; omega
    simp only [ι', this, if_false]
    exact hr.fit b (by simp only [AH.push] at hb; omega)
  · by_cases hb0 : b = h.n
    · subst hb0
      obtain rfl := new I hb
      simp only [AH.push, if_true, hw]
      exact ⟨rfl, rfl, c', elem, (0, 0), by simp [I₀, Array.getElem?_push], rfl, by simpa [I₀] using hl, fun _ => rfl,
        fun i v hi => let ⟨v', x, y⟩ := hc i v hi; ⟨v', by simpa [I₀] using x, y.mono hle⟩⟩
    · have hb1 := old b I hb hb0
      simp only [AH.push, hb0, if_false]
      rw [hold _ (hr.inb b I hb1)]
      exact (hr.blk b I hb1).mono hle
  · by_cases hb0 : b = h.n
    · subst hb0
      obtain rfl := new I hb
      simp [hw, I₀]
    · have := hr.inb b I (old b I hb hb0)
      rw [hw, Array.size_push]; omega
  · by_cases e1 : b₁ = h.n
    · by_cases e2 : b₂ = h.n
      · exact absurd (e1.trans e2.symm) hne
      · subst e1
        obtain rfl := new I₁ h1
        have := hr.inb b₂ I₂ (old b₂ I₂ h2 e2)
        show w.heap.size ≠ I₂.B
        omega
    · have h1' := old b₁ I₁ h1 e1
      by_cases e2 : b₂ = h.n
      · subst e2
        obtain rfl := new I₂ h2
        have := hr.inb b₁ I₁ h1'
        show I₁.B ≠ w.heap.size
        omega
      · have h2' := old b₂ I₂ h2 e2
        simp only [AH.push, e1, e2, if_false] at a d
        exact hr.apart b₁ b₂ I₁ I₂ h1' h2' hne a d
  · exact {
      le := hle
      n_le := by simp [AH.push]
      size := by rw [hw, Array.size_push]; omega
      lim := rfl
      wr := fun b hb h1 => by simpa [AH.push, Nat.ne_of_lt hb] using h1
      live := fun b hb h1 => by simpa [AH.push, Nat.ne_of_lt hb] using h1
      new := fun b I hb hb' => by
        by_cases e : b = h.n
        · omega
        · rw [old b I hb e] at hb'; cases hb'
      fresh := fun b I hb hb' _ => by
        by_cases e : b = h.n
        · subst e
          obtain rfl := new I hb
          exact .inl (Nat.le_refl _)
        · rw [old b I hb e] at hb'; cases hb'
      frame := fun B hB _ => hold B hB
      os := ho
      tape := ht
      output := hp }

/-- a new object that is no row of cells -/
theorem push_obj_sound {ι : Inj} {h : AH} {w w' : World} (hr : HRel ι h w) (o o' : Obj) (hoo : ORel ι o o')
    (hw : w'.heap = w.heap.push o') (ho : w'.os = w.os) (ht : w'.tape = w.tape) (hp : w'.output = w.output) :
    ∃ ι', ι' h.n = some ⟨w.heap.size, 0, 0, 0, true⟩ ∧ HRel ι' (h.push (.obj o)) w' ∧ Ext ι h w ι' (h.push (.obj o)) w' := by
  let I₀ : Img := ⟨w.heap.size, 0, 0, 0, true⟩
  let ι' : Inj := fun b => if b = h.n then some I₀ else ι b
  have hn : ι h.n = none := hr.fit _ (Nat.le_refl _)
  have hle : ι.le ι' := fun b I hb => by
    have : b ≠ h.n := fun e => by rw [e, hn] at hb; cases hb
    simp [ι', this, hb]
  have old : ∀ b I, ι' b = some I → b ≠ h.n → ι b = some I := fun b I hb hne => by simpa [ι', hne] using hb
  have new : ∀ I, ι' h.n = some I → I = I₀ := fun I hb => by simpa [ι'] using hb.symm
  have hold : ∀ B, B < w.heap.size → w'.heap[B]? = w.heap[B]? := fun B hB => by
    rw [hw, Array.getElem?_push, if_neg (by omega)]
  have hoo' : BRel ι I₀ (.obj o) (some o') := ⟨o', rfl, hoo⟩
  refine ⟨ι', by simp [ι', I₀], ⟨fun b hb => ?_, fun b I hb => ?_, fun b I hb => ?_, fun b₁ b₂ I₁ I₂ h1 h2 hne a d => ?_⟩, ?_⟩
  · have : b ≠ h.n := by simp only [AH.push] at hb; omega
    simp only [ι', this, if_false]
    exact hr.fit b (by simp only [AH.push] at hb; omega)
  · by_cases hb0 : b = h.n
    · subst hb0
      obtain rfl := new I hb
      simp only [AH.push, if_true, hw, I₀, Array.getElem?_push]
      exact hoo'.mono hle
    · have hb1 := old b I hb hb0
      simp only [AH.push, hb0, if_false]
      rw [hold _ (hr.inb b I hb1)]
      exact (hr.blk b I hb1).mono hle
  · by_cases hb0 : b = h.n
    · subst hb0
      obtain rfl := new I hb
      simp [hw, I₀]
    · have := hr.inb b I (old b I hb hb0)
      rw [hw, Array.size_push]; omega
  · by_cases e1 : b₁ = h.n
    · by_cases e2 : b₂ = h.n
      · exact absurd (e1.trans e2.symm) hne
      · subst e1
        obtain rfl := new I₁ h1
        have := hr.inb b₂ I₂ (old b₂ I₂ h2 e2)
        show w.heap.size ≠ I₂.B
        omega
    · have h1' := old b₁ I₁ h1 e1
      by_cases e2 : b₂ = h.n
      · subst e2
        obtain rfl := new I₂ h2
        have := hr.inb b₁ I₁ h1'
        show I₁.B ≠ w.heap.size
        omega
      · have h2' := old b₂ I₂ h2 e2
        simp only [AH.push, e1, e2, if_false] at a d
        exact hr.apart b₁ b₂ I₁ I₂ h1' h2' hne a d
  · exact {
      le := hle
      n_le := by simp [AH.push]
      size := by rw [hw, Array.size_push]; omega
      lim := rfl
      wr := fun b hb h1 => by simpa [AH.push, Nat.ne_of_lt hb] using h1
      live := fun b hb h1 => by simpa [AH.push, Nat.ne_of_lt hb] using h1
      new := fun b I hb hb' => by
        by_cases e : b = h.n
        · omega
        · rw [old b I hb e] at hb'; cases hb'
      fresh := fun b I hb hb' _ => by
        by_cases e : b = h.n
        · subst e
          obtain rfl := new I hb
          exact .inl (Nat.le_refl _)
        · rw [old b I hb e] at hb'; cases hb'
      frame := fun B hB _ => hold B hB
      os := ho
      tape := ht
      output := hp }

/-- block b's new contents; the concrete block turned at that one place -/
theorem upd_sound {ι : Inj} {h : AH} {w w' : World} (hr : HRel ι h w) {b : Nat} {I : Img} (hb : ι b = some I) (k : ABlk)
    (hmut : h.mut b = true) (hk : BRel ι I k w'.heap[I.B]?)
    (hw : ∀ B, B ≠ I.B → w'.heap[B]? = w.heap[B]?) (hs : w'.heap.size = w.heap.size) (ho : w'.os = w.os) (ht : w'.tape = w.tape) (hp : w'.output = w.output) :
    HRel ι (h.upd b k) w' ∧ Ext ι h w ι (h.upd b k) w' := by
  have hwr := (mut_wr hmut).1
  have hlive : (h.b b).live = true := wr_live hwr
  refine ⟨⟨hr.fit, fun x J hx => ?_, fun x J hx => by rw [hs]; exact hr.inb x J hx, fun a c J K ha hc hne h1 h2 => ?_⟩, ?_⟩
  · by_cases e : x = b
    · subst e
      rw [hb] at hx
      obtain rfl := Option.some.inj hx
      simpa [AH.upd] using hk
    · simp only [AH.upd, e, if_false]
      by_cases hl : (h.b x).live = true
      · rw [hw _ (Ne.symm (hr.apart b x I J hb hx (Ne.symm e) hwr hl))]
        exact hr.blk x J hx
      · cases hh : h.b x with
        | dead => trivial
        | cells => simp [hh, ABlk.live] at hl
        | obj => simp [hh, ABlk.live] at hl
  · have f : ∀ y, y ≠ b → (h.upd b k).b y = h.b y := fun y hy => by simp [AH.upd, hy]
    by_cases e1 : a = b
    · subst e1
      rw [f c (Ne.symm hne)] at h2
      exact hr.apart a c J K ha hc hne hwr h2
    · rw [f a e1] at h1
      by_cases e2 : c = b
      · subst e2; exact hr.apart a c J K ha hc hne h1 hlive
      · rw [f c e2] at h2; exact hr.apart a c J K ha hc hne h1 h2
  · exact {
      le := Inj.le_refl ι
      n_le := Nat.le_refl _
      size := by rw [hs]; exact Nat.le_refl _
      lim := rfl
      wr := fun x _ hx => by
        by_cases e : x = b
        · rw [e]; exact hwr
        · simpa [AH.upd, e] using hx
      live := fun x _ hx => by
        by_cases e : x = b
        · rw [e]; exact hlive
        · simpa [AH.upd, e] using hx
      new := fun x J hx hx' => by rw [hx] at hx'; cases hx'
      fresh := fun x J hx hx' => by rw [hx] at hx'; cases hx'
      frame := fun B hB hno => hw B (Ne.symm (hno b I hb hmut))
      os := ho
      tape := ht
      output := hp }

/-- a row that is given up goes on, grown in place, as a new abstract block over the same concrete one -/
theorem grow_sound {ι : Inj} {h : AH} {w w' : World} (hr : HRel ι h w) {b : Nat} {I : Img} (hb : ι b = some I) (hmut : h.mut b = true)
    (s' : Nat) (k : ABlk) (hk : BRel ι ⟨I.B, s', I.sz, I.es, I.ex⟩ k w'.heap[I.B]?)
    (hw : ∀ B, B ≠ I.B → w'.heap[B]? = w.heap[B]?) (hs : w'.heap.size = w.heap.size) (ho : w'.os = w.os) (ht : w'.tape = w.tape) (hp : w'.output = w.output) :
    ∃ ι', ι' h.n = some ⟨I.B, s', I.sz, I.es, I.ex⟩ ∧ HRel ι' ((h.upd b .dead).push k) w' ∧ Ext ι h w ι' ((h.upd b .dead).push k) w' := by
  let I₀ : Img := ⟨I.B, s', I.sz, I.es, I.ex⟩
  let ι' : Inj := fun x => if x = h.n then some I₀ else ι x
  have hn : ι h.n = none := hr.fit _ (Nat.le_refl _)
  have hle : ι.le ι' := fun x J hx => by
    have : x ≠ h.n := fun e => by rw [e, hn] at hx; cases hx
    simp [ι', this, hx]
  have old : ∀ x J, ι' x = some J → x ≠ h.n → ι x = some J := fun x J hx hne => by simpa [ι', hne] using hx
  have new : ∀ J, ι' h.n = some J → J = I₀ := fun J hx => by simpa [ι'] using hx.symm
  have hwr := (mut_wr hmut).1
  have hlive : (h.b b).live = true := wr_live hwr
  have g : ∀ x, x ≠ h.n → ((h.upd b .dead).push k).b x = if x = b then .dead else h.b x := fun x hx => by simp [AH.push, AH.upd, hx]
  have gn : ((h.upd b .dead).push k).b h.n = k := by simp [AH.push, AH.upd]
  refine ⟨ι', by simp [ι', I₀], ⟨fun x hx => ?_, fun x J hx => ?_, fun x J hx => ?_, fun a c J K ha hc hne h1 h2 => ?_⟩, ?_⟩
  · have : x ≠ h.n := by simp only [AH.push, AH.upd] at hx; omega
    simp only [ι', this, if_false]
    exact hr.fit x (by simp only [AH.push, AH.upd] at hx; omega)
  · by_cases e : x = h.n
    · subst e
      obtain rfl := new J hx
      rw [gn]
      exact hk.mono hle
    · have hx' := old x J hx e
      rw [g x e]
      by_cases e2 : x = b
      · rw [if_pos e2]; trivial
      · rw [if_neg e2]
        by_cases hl : (h.b x).live = true
        · rw [hw _ (Ne.symm (hr.apart b x I J hb hx' (Ne.symm e2) hwr hl))]
          exact (hr.blk x J hx').mono hle
        · cases hh : h.b x with
          | dead => trivial
          | cells => simp [hh, ABlk.live] at hl
          | obj => simp [hh, ABlk.live] at hl
  · rw [hs]
    by_cases e : x = h.n
    · subst e
      obtain rfl := new J hx
      exact hr.inb b I hb
    · exact hr.inb x J (old x J hx e)
  · by_cases e1 : a = h.n
    · have e2 : c ≠ h.n := fun e => hne (e1.trans e.symm)
      subst e1
      obtain rfl := new J ha
      rw [g c e2] at h2
      by_cases e3 : c = b
      · rw [if_pos e3] at h2; cases h2
      · rw [if_neg e3] at h2
        exact hr.apart b c I K hb (old c K hc e2) (Ne.symm e3) hwr h2
    · rw [g a e1] at h1
      by_cases e3 : a = b
      · rw [if_pos e3] at h1; cases h1
      · rw [if_neg e3] at h1
        by_cases e2 : c = h.n
        · subst e2
          obtain rfl := new K hc
          exact hr.apart a b J I (old a J ha e1) hb e3 h1 hlive
        · rw [g c e2] at h2
          by_cases e4 : c = b
          · rw [if_pos e4] at h2; cases h2
          · rw [if_neg e4] at h2
            exact hr.apart a c J K (old a J ha e1) (old c K hc e2) hne h1 h2
  · exact {
      le := hle
      n_le := by simp [AH.push, AH.upd]
      size := by rw [hs]; exact Nat.le_refl _
      lim := rfl
      wr := fun x hx h1 => by
        rw [g x (Nat.ne_of_lt hx)] at h1
        split at h1
        · cases h1
        · exact h1
      live := fun x hx h1 => by
        rw [g x (Nat.ne_of_lt hx)] at h1
        split at h1
        · cases h1
        · exact h1
      new := fun x J hx hx' => by
        by_cases e : x = h.n
        · omega
        · rw [old x J hx e] at hx'; cases hx'
      fresh := fun x J hx hx' _ => by
        by_cases e : x = h.n
        · subst e
          obtain rfl := new J hx
          exact .inr ⟨b, I, hb, hmut, rfl⟩
        · rw [old x J hx e] at hx'; cases hx'
      frame := fun B hB hno => hw B (Ne.symm (hno b I hb hmut))
      os := ho
      tape := ht
      output := hp }

end Go.AM
