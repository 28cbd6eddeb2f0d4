/-
  AM, part 29: what a function is given, in a memory of its own.
-/
import Derived.Test.YtelcedajmnblbaaAm28
set_option linter.unusedVariables false
set_option linter.unusedSimpArgs false
namespace Go.AM

theorem enc_scal (k : K) (d : D) : scal (enc k d) = true := by cases k <;> rfl
theorem encL_scal : ∀ (ks : List K) (ds : List D), (encL ks ds).all scal = true
  | [], _ => rfl
  | k :: ks, ds => by simp [encL, enc_scal, encL_scal ks]
theorem encR_scal (ks : List K) : ∀ (rs : List D), (encR ks rs).all scal = true
  | [] => rfl
  | r :: rs => by rw [encR_cons, List.all_append, encL_scal, encR_scal ks rs]; rfl

theorem decK_inv {k : K} {v : Value} {d : D} (h : decK k v = some d) : v = enc k d := by
  unfold decK at h
  split at h
  · split at h
    · rename_i e; subst e; obtain rfl := Option.some.inj h; rfl
    · cases h
  · obtain rfl := Option.some.inj h; rfl
  · obtain rfl := Option.some.inj h; rfl
  · cases h
theorem decL_inv : ∀ {ks : List K} {vs : List Value} {ds : List D}, decL ks vs = some ds → vs = encL ks ds
  | [], [], ds, h => rfl
  | k :: ks, v :: vs, ds, h => by
    simp only [decL] at h
    split at h
    · rename_i d ds' h1 h2
      obtain rfl := Option.some.inj h
      simp only [encL, List.headD_cons, List.tail_cons, ← decK_inv h1, ← decL_inv h2]
    · cases h
  | [], _ :: _, _, h => by cases h
  | _ :: _, [], _, h => by cases h
theorem decR_inv {ks : List K} : ∀ {n : Nat} {l : List Value} {rs : List D}, decR ks n l = some rs → l = encR ks rs ∧ rs.length = n
  | 0, [], rs, h => by simp only [decR, Option.some.injEq] at h; subst h; exact ⟨rfl, rfl⟩
  | 0, _ :: _, rs, h => by cases h
  | n + 1, l, rs, h => by
    simp only [decR] at h
    split at h
    · rename_i e r h1 h2
      obtain rfl := Option.some.inj h
      obtain ⟨a, b⟩ := decR_inv h2
      have hl := decL_inv h1
      rw [encR_cons, ← a]
      simp only [D.toL_l, ← hl, List.take_append_drop, List.length_cons, b]
      exact ⟨trivial, trivial⟩
    · cases h

def Sh.cin (h : AH) : Sh → D → Value × AH
  | .k kd, d => (AM.enc kd d, h)
  | .agg ks, d => (.agg (encL ks d.toL).toArray, h)
  | .row ks, d => (.slice (some ⟨h.n, 0, none⟩) d.toL.length d.toL.length, h.push (.cells (encR ks d.toL) ks.length false false))
def cins : List Sh → List D → AH → List Value × AH
  | [], _, h => ([], h)
  | s :: ss, ds, h => let r := s.cin h (ds.headD default); let q := cins ss ds.tail r.2; (r.1 :: q.1, q.2)

theorem LRel.scal {ι ι' : Inj} {l l' : List Value} (hs : l.all AM.scal = true) (h : LRel ι l l') : LRel ι' l l' := by
  refine ⟨h.1, fun i x x' hx hx' => ?_⟩
  have hsx := List.all_eq_true.1 hs x (List.mem_of_getElem? hx)
  have := scal_eq hsx (h.2 i x x' hx hx')
  rw [this]
  exact scal_refl hsx

theorem cin_rel {ι ι₀ : Inj} {h h₀ : AH} {w : World} (hr : HRel ι h w) (h0 : RoRel ι₀ h₀ w) {s : Sh} {v v' : Value} (hv : VRel ι v v') {d : D} (hd : s.dec h v = some d) :
    ∃ ι₁, ι₀.le ι₁ ∧ RoRel ι₁ (s.cin h₀ d).2 w ∧ VRel ι₁ (s.cin h₀ d).1 v' := by
  cases s with
  | k kd =>
    obtain rfl := decK_inv hd
    have := scal_eq (enc_scal kd d) hv
    subst this
    exact ⟨ι₀, Inj.le_refl _, h0, scal_refl (enc_scal kd d)⟩
  | agg ks =>
    cases v <;> simp only [Sh.dec] at hd <;> try (cases hd; done)
    rename_i cs
    obtain ⟨ds, h1, rfl⟩ := Option.map_eq_some_iff.1 hd
    have hl := decL_inv h1
    have hf : flat (.agg cs) = true := by simp only [flat, hl]; exact encL_scal ks ds
    have : v' = .agg cs := by
      cases hv with
      | agg hs h2 =>
        rename_i c'
        congr 1
        apply Array.ext (by omega)
        intro i h3 h4
        have hx : cs[i]? = some cs[i] := by simp [h4]
        have hsx := List.all_eq_true.1 (by simpa only [flat] using hf) cs[i] (by simp)
        exact scal_eq hsx (h2 i _ _ (by simp) (by simp))
    subst this
    refine ⟨ι₀, Inj.le_refl _, h0, ?_⟩
    have e : (encL ks ds).toArray = cs := by rw [← hl]
    simp only [Sh.cin, D.toL_l, e]
    exact flat_refl hf
  | row ks =>
    cases v <;> simp only [Sh.dec] at hd <;> try (cases hd; done)
    rename_i p n c
    split at hd
    case isFalse => cases hd
    rename_i hpos
    obtain ⟨l, h1, h2⟩ := Option.bind_eq_some_iff.1 hd
    obtain ⟨rs, h3, rfl⟩ := Option.map_eq_some_iff.1 h2
    obtain ⟨rfl, hn0⟩ := decR_inv h3
    simp only [Sh.cin, D.toL_l]
    have ghost : rs = [] → ∀ q, ∃ ι₁, ι₀.le ι₁ ∧ RoRel ι₁ (h₀.push (.cells (encR ks rs) ks.length false false)) w ∧ VRel ι₁ (.slice (some ⟨h₀.n, 0, none⟩) rs.length rs.length) (.slice q 0 0) := fun e q => by
      subst e
      exact ⟨ι₀, Inj.le_refl _, h0.ghost _ _ false, .xslice⟩
    -- a row that is there
    have there : ∀ (I : Img) (o' cap : Nat), I.B < w.heap.size → I.es = ks.length → o' + cap * I.es ≤ I.sz → rs.length ≤ cap →
        (∃ c' elem fr, w.heap[I.B]? = some (.cells c' elem fr) ∧ c'.size = I.sz ∧ ∀ (i : Nat) u, (encR ks rs)[i]? = some u → ∃ u', c'[o' + i]? = some u' ∧ VRel ι u u') →
        ∃ ι₁, ι₀.le ι₁ ∧ RoRel ι₁ (h₀.push (.cells (encR ks rs) ks.length false false)) w ∧ VRel ι₁ (.slice (some ⟨h₀.n, 0, none⟩) rs.length rs.length) (.slice (some ⟨I.B, o', none⟩) rs.length cap) := by
      intro I o' cap hin hes hcap hle ⟨c', elem, fr, q1, q2, q3⟩
      have hm := Nat.mul_le_mul_right ks.length hle
      obtain ⟨ι₁, l1, l2, l3⟩ := h0.push (encR ks rs) ks.length false ⟨I.B, o', I.sz, ks.length, false⟩
        ⟨rfl, rfl, c', elem, fr, q1, q2, by rw [encR_length]; rw [hes] at hcap; simp only; omega, (fun h => by cases h), fun i u hu => by
          obtain ⟨u', r1, r2⟩ := q3 i u hu
          have hsu := List.all_eq_true.1 (encR_scal ks rs) u (List.mem_of_getElem? hu)
          rw [scal_eq hsu r2] at r1
          exact ⟨u, r1, scal_refl hsu⟩⟩ hin
      refine ⟨ι₁, l1, l3, ?_⟩
      have := VRel.slice (ι := ι₁) (o := 0) (n := rs.length) (c := rs.length) (c' := cap) l2 (Nat.le_refl _) hle (fun h => by cases h) (by simp only [Nat.add_zero]; rw [hes] at hcap; exact hcap)
      simpa using this
    cases hv with
    | nilSlice => exact ghost (List.eq_nil_of_length_eq_zero hn0) none
    | xslice => exact ghost (List.eq_nil_of_length_eq_zero hn0) _
    | slice hb hn hc hx hbd =>
      subst hn0
      rename_i b o cap I
      have hbk := hr.blk b I hb
      have hes : I.es = ks.length := by
        have := hpos.2
        simp only [rowEs, Bool.and_eq_true] at this
        cases hk : h.b b <;> rw [hk] at this hbk
        · simp at this
        · have e := this.2; simp only [beq_iff_eq] at e; rw [← e]; exact hbk.1.symm
        · simp at this
      refine there I (I.s + o) cap (hr.inb b I hb) hes hbd (Nat.le_trans hn hc) ?_
      have hblk : ∃ c₀ es wr ex, h.b b = .cells c₀ es wr ex := by
        have := hpos.2
        simp only [rowEs, Bool.and_eq_true] at this
        cases hk : h.b b <;> rw [hk] at this
        · simp at this
        · exact ⟨_, _, _, _, rfl⟩
        · simp at this
      obtain ⟨c₀, es₀, wr₀, ex₀, hk⟩ := hblk
      rw [hk] at hbk
      obtain ⟨_, _, c', elem, fr, q1, q2, q3, _, q5⟩ := hbk
      refine ⟨c', elem, fr, q1, q2, fun i u hu => ?_⟩
      simp only [sliceCells] at h1
      split at h1
      · rename_i e
        have : rs = [] := List.eq_nil_of_length_eq_zero e
        subst this
        simp [encR] at hu
      · unfold AH.getN at h1
        simp only [hk] at h1
        split at h1
        · have h1 := Option.some.inj h1
          rw [← h1, List.getElem?_take] at hu
          split at hu
          · rw [List.getElem?_drop] at hu
            obtain ⟨u', r1, r2⟩ := q5 _ u hu
            exact ⟨u', by rw [Nat.add_assoc]; exact r1, r2⟩
          · cases hu
        · cases h1
    | zslice hb hx hbd =>
      rename_i b o o' cap I
      have hbk := hr.blk b I hb
      have hrs : rs = [] := List.eq_nil_of_length_eq_zero hn0
      subst hrs
      have hblk : ∃ c₀ wr ex, h.b b = .cells c₀ ks.length wr ex := by
        have := hpos.2
        simp only [rowEs, Bool.and_eq_true] at this
        cases hk : h.b b <;> rw [hk] at this
        · simp at this
        · have e := this.2; simp only [beq_iff_eq] at e; subst e; exact ⟨_, _, _, rfl⟩
        · simp at this
      obtain ⟨c₀, wr₀, ex₀, hk⟩ := hblk
      rw [hk] at hbk
      obtain ⟨hes, _, c', elem, fr, q1, q2, q3, _, q5⟩ := hbk
      exact there I o' cap (hr.inb b I hb) hes.symm hbd (Nat.zero_le _) ⟨c', elem, fr, q1, q2, fun i u hu => by simp [encR] at hu⟩

end Go.AM
