/-
  AM, part 30: what comes out of a function, seen in its caller's memory.
-/
import Derived.Test.YtelcedajmnblbaaAm29
set_option linter.unusedVariables false
set_option linter.unusedSimpArgs false
namespace Go.AM

theorem enc_norm (k : K) (d : D) : enc k (normK k d) = enc k d := by cases k <;> rfl
theorem encL_norm : ∀ (ks : List K) (ds : List D), encL ks (normL ks ds) = encL ks ds
  | [], _ => rfl
  | k :: ks, ds => by simp [encL, normL, enc_norm, encL_norm ks]
theorem encR_norm (ks : List K) : ∀ (rs : List D), encR ks (rs.map fun e => .l (normL ks e.toL)) = encR ks rs
  | [] => rfl
  | r :: rs => by rw [List.map_cons, encR_cons, encR_cons, encR_norm ks rs, D.toL_l, encL_norm]

def Inj.put (ι : Inj) (b : Nat) (I : Img) : Inj := fun i => if i = b then some I else ι i

theorem HRel.view {ι : Inj} {h : AH} {w : World} (hr : HRel ι h w) {k : ABlk} {I : Img} (hI : BRel ι I k w.heap[I.B]?) (hin : I.B < w.heap.size) (hap : ∀ b J, ι b = some J → J.B ≠ I.B) :
    ι.le (ι.put h.n I) ∧ HRel (ι.put h.n I) (h.push k) w := by
  have hn : ι h.n = none := hr.fit _ (Nat.le_refl _)
  have hle : ι.le (ι.put h.n I) := fun b J hb => by
    have : b ≠ h.n := fun e => by rw [e, hn] at hb; cases hb
    simp [Inj.put, this, hb]
  refine ⟨hle, fun b hb => ?_, fun b J hb => ?_, fun b J hb => ?_, fun b₁ b₂ I₁ I₂ h1 h2 hne hw hl => ?_⟩
  · have : b ≠ h.n := by simp only [AH.push] at hb; omega
    simp only [Inj.put, this, if_false]
    exact hr.fit b (by simp only [AH.push] at hb; omega)
  · by_cases e : b = h.n
    · subst e
      have : J = I := by simpa [Inj.put] using hb.symm
      subst this
      simp only [AH.push, if_true]
      exact hI.mono hle
    · have hb' : ι b = some J := by simpa [Inj.put, e] using hb
      simp only [AH.push, e, if_false]
      exact (hr.blk b J hb').mono hle
  · by_cases e : b = h.n
    · subst e
      have : J = I := by simpa [Inj.put] using hb.symm
      subst this; exact hin
    · exact hr.inb b J (by simpa [Inj.put, e] using hb)
  · by_cases e1 : b₁ = h.n
    · subst e1
      have : I₁ = I := by simpa [Inj.put] using h1.symm
      subst this
      have e2 : b₂ ≠ h.n := fun e => hne e.symm
      exact fun e => hap b₂ I₂ (by simpa [Inj.put, e2] using h2) e.symm
    · have h1' : ι b₁ = some I₁ := by simpa [Inj.put, e1] using h1
      by_cases e2 : b₂ = h.n
      · subst e2
        have : I₂ = I := by simpa [Inj.put] using h2.symm
        subst this
        exact hap b₁ I₁ h1'
      · simp only [AH.push, e1, e2, if_false] at hw hl
        exact hr.apart b₁ b₂ I₁ I₂ h1' (by simpa [Inj.put, e2] using h2) hne hw hl

theorem HRel.ghost {ι : Inj} {h : AH} {w : World} (hr : HRel ι h w) (k : ABlk) : HRel ι (h.push k) w := by
  have hne : ∀ {b : Nat} {J : Img}, ι b = some J → b ≠ h.n := fun {b J} hb e => by
    have := hr.fit b (by omega)
    rw [this] at hb; cases hb
  refine ⟨fun b hb => hr.fit b (by simp only [AH.push] at hb; omega), fun b J hb => ?_, hr.inb, fun b₁ b₂ I₁ I₂ h1 h2 hn hw hl => ?_⟩
  · simp only [AH.push, hne hb, if_false]
    exact hr.blk b J hb
  · simp only [AH.push, hne h1, hne h2, if_false] at hw hl
    exact hr.apart b₁ b₂ I₁ I₂ h1 h2 hn hw hl

/-- the caller's memory, and what was taken over into it from the callee's -/
structure Into (ι : Inj) (h : AH) (w : World) (ι₁ : Inj) (h₁ : AH) (w' : World) (used : List Nat) (ι₂ : Inj) (h₂ : AH) : Prop where
  rel : HRel ι₂ h₂ w'
  ext : Ext ι h w ι₂ h₂ w'
  src : ∀ b I, ι₂ b = some I → I.B < w.heap.size ∨ ∃ b₁ ∈ used, ∃ I₁, ι₁ b₁ = some I₁ ∧ (h₁.b b₁).wr = true ∧ I₁.B = I.B

/-- may a value be taken over? -/
def takes (h₁ : AH) (used : List Nat) : Sh → Value → Option (List Nat)
  | .row _, .slice (some a) _ _ => if (h₁.b a.block).wr = true ∧ a.block ∉ used then some (a.block :: used) else none
  | _, _ => some used

theorem Ext.push_view {ι ι₂ ι₃ : Inj} {h h₂ : AH} {w w' : World} (e : Ext ι h w ι₂ h₂ w') (k : ABlk) (hfit : ι₂ h₂.n = none) (hle : ι₂.le ι₃) (hnew : ∀ b I, ι₃ b = some I → ι₂ b = none → b = h₂.n ∧ w.heap.size ≤ I.B) :
    Ext ι h w ι₃ (h₂.push k) w' := by
  have hne : ∀ {b : Nat}, b < h.n → b ≠ h₂.n := fun hb => by have := e.n_le; omega
  refine ⟨Inj.le_trans e.le hle, by simp only [AH.push]; have := e.n_le; omega, e.size, e.lim, fun b hb hw => ?_, fun b hb hl => ?_, fun b I hb hn => ?_, fun b I hb hn hl => ?_, e.frame, e.os, e.tape, e.output⟩
  · simp only [AH.push, hne hb, if_false] at hw; exact e.wr b hb hw
  · simp only [AH.push, hne hb, if_false] at hl; exact e.live b hb hl
  · cases h2 : ι₂ b with
    | none => obtain ⟨rfl, _⟩ := hnew b I hb h2; exact e.n_le
    | some J => exact e.new b J h2 hn
  · cases h2 : ι₂ b with
    | none => exact .inl (hnew b I hb h2).2
    | some J =>
      have hJ := hle b J h2
      rw [hb] at hJ
      obtain rfl := Option.some.inj hJ
      have eb : b ≠ h₂.n := fun eb => by rw [eb, hfit] at h2; cases h2
      simp only [AH.push, eb, if_false] at hl
      exact e.fresh b I h2 hn hl

/-- one result -/
theorem out_rel {ι ι₁ ι₂ : Inj} {h h₁ h₂ : AH} {w w' : World} {used used' : List Nat} (hr₁ : HRel ι₁ h₁ w') (hfresh : ∀ b I, ι₁ b = some I → (h₁.b b).wr = true → w.heap.size ≤ I.B)
    (hi : Into ι h w ι₁ h₁ w' used ι₂ h₂) {s : Sh} {u u' : Value} (hu : VRel ι₁ u u') {d : D} (hd : s.dec h₁ u = some (s.norm d)) (ht : takes h₁ used s u = some used') :
    ∃ ι₃, ι₂.le ι₃ ∧ Into ι h w ι₁ h₁ w' used' ι₃ (s.enc h₂ d).2 ∧ VRel ι₃ (s.enc h₂ d).1 u' := by
  cases s with
  | k kd =>
    have e := decK_inv hd
    simp only [Sh.norm, enc_norm] at e
    subst e
    have := scal_eq (enc_scal kd d) hu
    subst this
    have : used' = used := by simp only [takes, Option.some.injEq] at ht; exact ht.symm
    subst this
    exact ⟨ι₂, Inj.le_refl _, hi, scal_refl (enc_scal kd d)⟩
  | agg ks =>
    have : used' = used := by simp only [takes, Option.some.injEq] at ht; exact ht.symm
    subst this
    cases u <;> simp only [Sh.dec] at hd <;> try (cases hd; done)
    rename_i cs
    obtain ⟨ds, h1, h2⟩ := Option.map_eq_some_iff.1 hd
    simp only [Sh.norm, D.l.injEq] at h2
    subst h2
    have hl := decL_inv h1
    rw [encL_norm] at hl
    have hf : flat (.agg cs) = true := by simp only [flat, hl]; exact encL_scal ks _
    have : u' = .agg cs := flat_eq hf hu
    subst this
    refine ⟨ι₂, Inj.le_refl _, hi, ?_⟩
    have e : (encL ks d.toL).toArray = cs := by rw [← hl]
    simp only [Sh.enc, e]
    exact flat_refl hf
  | row ks =>
    cases u <;> simp only [Sh.dec] at hd <;> try (cases hd; done)
    rename_i p n c
    split at hd
    case isFalse => cases hd
    rename_i hpos
    obtain ⟨l, h1, h2⟩ := Option.bind_eq_some_iff.1 hd
    obtain ⟨rs, h3, h4⟩ := Option.map_eq_some_iff.1 h2
    obtain ⟨rfl, hn0⟩ := decR_inv h3
    simp only [Sh.norm, D.l.injEq] at h4
    subst h4
    rw [encR_norm] at h1
    rw [List.length_map] at hn0
    have hfit : ι₂ h₂.n = none := hi.rel.fit _ (Nat.le_refl _)
    have ghost : d.toL = [] → used' = used ∨ (∃ b, used' = b :: used) → ∀ q, ∃ ι₃, ι₂.le ι₃ ∧ Into ι h w ι₁ h₁ w' used' ι₃ (h₂.push (.cells (encR ks d.toL) ks.length true false)) ∧ VRel ι₃ (.slice (some ⟨h₂.n, 0, none⟩) d.toL.length d.toL.length) (.slice q 0 0) := fun e hus q => by
      rw [e]
      refine ⟨ι₂, Inj.le_refl _, ⟨hi.rel.ghost _, hi.ext.push_view _ hfit (Inj.le_refl _) (fun b I hb hn => by rw [hb] at hn; cases hn), fun b I hb => ?_⟩, .xslice⟩
      rcases hi.src b I hb with q | ⟨b₁, hb₁, r⟩
      · exact .inl q
      · refine .inr ⟨b₁, ?_, r⟩
        rcases hus with rfl | ⟨y, rfl⟩
        · exact hb₁
        · exact List.mem_cons_of_mem _ hb₁
    have there : ∀ (b : Nat) (I : Img) (o' cap : Nat), ι₁ b = some I → (h₁.b b).wr = true → b ∉ used → used' = b :: used → I.es = ks.length → o' + cap * I.es ≤ I.sz → d.toL.length ≤ cap →
        (∃ c' elem, w'.heap[I.B]? = some (.cells c' elem (0, 0)) ∧ c'.size = I.sz ∧ ∀ (i : Nat) u, (encR ks d.toL)[i]? = some u → ∃ u', c'[o' + i]? = some u' ∧ VRel ι₁ u u') →
        ∃ ι₃, ι₂.le ι₃ ∧ Into ι h w ι₁ h₁ w' used' ι₃ (h₂.push (.cells (encR ks d.toL) ks.length true false)) ∧ VRel ι₃ (.slice (some ⟨h₂.n, 0, none⟩) d.toL.length d.toL.length) (.slice (some ⟨I.B, o', none⟩) d.toL.length cap) := by
      intro b I o' cap hb hw hnu hus hes hcap hle ⟨c', elem, q1, q2, q3⟩
      subst hus
      have hm := Nat.mul_le_mul_right ks.length hle
      have hlo := hfresh b I hb hw
      have hap : ∀ b₂ J, ι₂ b₂ = some J → J.B ≠ I.B := fun b₂ J hb₂ e => by
        rcases hi.src b₂ J hb₂ with q | ⟨b₁, hb₁, I₁, r1, r2, r3⟩
        · omega
        · have : b ≠ b₁ := fun e => hnu (e ▸ hb₁)
          exact hr₁.apart b b₁ I I₁ hb r1 this hw (wr_live r2) (by rw [r3, e])
      have hbr : BRel ι₂ ⟨I.B, o', I.sz, ks.length, false⟩ (.cells (encR ks d.toL) ks.length true false) w'.heap[I.B]? :=
        ⟨rfl, rfl, c', elem, (0, 0), q1, q2, by rw [encR_length]; rw [hes] at hcap; simp only; omega, fun _ => rfl, fun i u hu => by
          obtain ⟨u', r1, r2⟩ := q3 i u hu
          have hsu := List.all_eq_true.1 (encR_scal ks d.toL) u (List.mem_of_getElem? hu)
          rw [scal_eq hsu r2] at r1
          exact ⟨u, r1, scal_refl hsu⟩⟩
      obtain ⟨l1, l2⟩ := hi.rel.view hbr (hr₁.inb b I hb) hap
      have hput : (ι₂.put h₂.n ⟨I.B, o', I.sz, ks.length, false⟩) h₂.n = some ⟨I.B, o', I.sz, ks.length, false⟩ := by simp [Inj.put]
      refine ⟨_, l1, ⟨l2, hi.ext.push_view _ hfit l1 (fun b₂ J h1 h2 => ?_), fun b₂ J h1 => ?_⟩, ?_⟩
      · by_cases e : b₂ = h₂.n
        · subst e
          rw [hput] at h1
          obtain rfl := Option.some.inj h1
          exact ⟨rfl, hlo⟩
        · simp only [Inj.put, e, if_false] at h1
          rw [h2] at h1; cases h1
      · by_cases e : b₂ = h₂.n
        · subst e
          rw [hput] at h1
          obtain rfl := Option.some.inj h1
          exact .inr ⟨b, List.mem_cons_self, I, hb, hw, rfl⟩
        · simp only [Inj.put, e, if_false] at h1
          rcases hi.src b₂ J h1 with q | ⟨b₁, hb₁, r⟩
          · exact .inl q
          · exact .inr ⟨b₁, List.mem_cons_of_mem _ hb₁, r⟩
      · have := VRel.slice (o := 0) (n := d.toL.length) (c := d.toL.length) (c' := cap) hput (Nat.le_refl _) hle (fun h => by cases h) (by simp only [Nat.add_zero]; rw [hes] at hcap; exact hcap)
        simpa using this
    have hcells : ∀ {a : Addr}, p = some a → a.spot = none ∧ ∃ c₀ wr ex, h₁.b a.block = .cells c₀ ks.length wr ex := fun {a} e => by
      have := hpos.2
      subst e
      simp only [rowEs, Bool.and_eq_true] at this
      refine ⟨by simpa using this.1, ?_⟩
      cases hk : h₁.b a.block <;> rw [hk] at this
      · simp at this
      · have e := this.2; simp only [beq_iff_eq] at e; subst e; exact ⟨_, _, _, rfl⟩
      · simp at this
    have htk : ∀ {a : Addr}, p = some a → (h₁.b a.block).wr = true ∧ a.block ∉ used ∧ used' = a.block :: used := fun {a} e => by
      subst e
      simp only [takes] at ht
      split at ht
      · rename_i hc; exact ⟨hc.1, hc.2, (Option.some.inj ht).symm⟩
      · cases ht
    simp only [Sh.enc]
    cases hu with
    | nilSlice =>
      refine ghost (List.eq_nil_of_length_eq_zero hn0) (.inl ?_) none
      simp only [takes, Option.some.injEq] at ht; exact ht.symm
    | xslice => exact ghost (List.eq_nil_of_length_eq_zero hn0) (.inr ⟨_, (htk rfl).2.2⟩) _
    | slice hb hn hc hx hbd =>
      rename_i b o cap I
      subst hn0
      obtain ⟨hw, hnu, hus⟩ := htk rfl
      obtain ⟨_, c₀, wr₀, ex₀, hk⟩ := hcells rfl
      have hbk := hr₁.blk b I hb
      simp only at hk hw
      rw [hk] at hbk hw
      obtain ⟨hes, _, c', elem, fr, q1, q2, q3, q4, q5⟩ := hbk
      obtain rfl := q4 hw
      refine there b I (I.s + o) cap hb (by rw [hk]; exact hw) hnu hus hes.symm hbd (Nat.le_trans hn hc) ⟨c', elem, q1, q2, fun i u hu => ?_⟩
      simp only [sliceCells] at h1
      split at h1
      · rename_i e
        have : d.toL = [] := List.eq_nil_of_length_eq_zero e
        rw [this] at hu
        simp [encR] at hu
      · unfold AH.getN at h1
        simp only [hk] at h1
        split at h1
        · have h1 := Option.some.inj h1
          rw [← h1, List.getElem?_take] at hu
          split at hu
          · rw [List.getElem?_drop] at hu
            obtain ⟨u', r1, r2⟩ := q5 _ u hu
            exact ⟨u', by rw [Nat.add_assoc]; exact r1, r2⟩
          · cases hu
        · cases h1
    | zslice hb hx hbd =>
      rename_i b o o' cap I
      have hrs : d.toL = [] := List.eq_nil_of_length_eq_zero hn0
      obtain ⟨hw, hnu, hus⟩ := htk rfl
      obtain ⟨_, c₀, wr₀, ex₀, hk⟩ := hcells rfl
      have hbk := hr₁.blk b I hb
      simp only at hk hw
      rw [hk] at hbk hw
      obtain ⟨hes, _, c', elem, fr, q1, q2, q3, q4, q5⟩ := hbk
      obtain rfl := q4 hw
      have := there b I o' cap hb (by rw [hk]; exact hw) hnu hus hes.symm hbd (by rw [hrs]; exact Nat.zero_le _) ⟨c', elem, q1, q2, fun i u hu => by rw [hrs] at hu; simp [encR] at hu⟩
      rw [hrs] at this ⊢
      exact this

end Go.AM
