/-
  AM, part 6: addresses of parts, parts of values, slices.
-/
import Derived.Test.YtelcedajmnblbaaAm5
set_option linter.unusedVariables false
set_option linter.unusedSimpArgs false
namespace Go.AM

theorem fieldAddr_sound {E : Env} (hE : E.Ok) {ι : Inj} {s : TypeId} {x x' : Value} (hx : VRel ι x x') {f : Nat} {v : Value} (h : afieldAddr E s x f = some v) (w : World) :
    ∃ v', (Instr.fieldAt s x' f).run E.P w = .ok v' w ∧ VRel ι v v' := by
  unfold afieldAddr at h
  split at h
  · rename_i fields a hu
    split at h
    · rename_i fd hf
      split at h
      · rename_i n b z hi
        split at h
        · cases h
        · rename_i hc
          obtain rfl := Option.some.inj h
          cases hx with
          | ptr hb =>
            rename_i b o I
            refine ⟨.pointer (some ⟨I.B, I.s + o + fd.offset, none⟩), ?_, ?_⟩
            · unfold Instr.fieldAt
              have hf' : fields[f]? = some fd := by simpa using hf
              have hn : n ≠ 0 := fun e => hc (.inl e)
              simp [run_underlying (hE.under _ _ hu), hf', Instr.sureAddr, fieldPlace, size_run hE hi, hn, add_none]
            · rw [add_none, Nat.add_assoc]; exact .ptr hb
      · cases h
    · cases h
  · cases h

theorem part_sound {E : Env} (hE : E.Ok) {ι : Inj} {ty : TypeId} {cs : List Value} {cs' : Array Value} (hc : LRel ι cs cs'.toList) {off : Nat} {v : Value} (h : apart E ty cs off = some v) (w : World) :
    ∃ v', (part ty cs' off).run E.P w = .ok v' w ∧ VRel ι v v' := by
  unfold apart at h
  split at h
  · rename_i d n b z hu hi
    unfold part
    rw [Sem.run_bind, isAgg_run hE hu, Result.andThen_ok]
    split at h
    · rename_i hd
      obtain rfl := Option.some.inj h
      have hl := (hc.drop off).take n
      refine ⟨.agg (cs'.extract off (off + n)), ?_, ?_⟩
      · simp [hd, size_run hE hi]
      · have e : (cs'.extract off (off + n)).toList = (cs'.toList.drop off).take n := by
          rw [Array.toList_extract]; simp [List.extract]
        refine .agg ?_ (fun i x x' p q => hl.2 i x x' (by simpa using p) ?_)
        · rw [List.size_toArray, ← Array.length_toList, e]; exact hl.1
        · rw [← e, Array.getElem?_toList]; exact q
    · rename_i hd
      obtain ⟨v', hv', hrel⟩ := hc.get h
      refine ⟨v', ?_, hrel⟩
      have : cs'[off]? = some v' := by simpa using hv'
      rw [if_neg hd]
      simp [this]
  · cases h

theorem agg_rel {ι : Inj} {cs : Array Value} {x' : Value} (h : VRel ι (.agg cs) x') : ∃ cs', x' = .agg cs' ∧ LRel ι cs.toList cs'.toList := by
  cases h with
  | agg hs h => exact ⟨_, rfl, by simpa using hs, fun i x x' p q => h i x x' (by simpa using p) (by simpa using q)⟩

theorem field_sound {E : Env} (hE : E.Ok) {ι : Inj} {s : TypeId} {x x' : Value} (hx : VRel ι x x') {f : Nat} {v : Value} (h : afield E s x f = some v) (w : World) :
    ∃ v', (Instr.field s x' f).run E.P w = .ok v' w ∧ VRel ι v v' := by
  unfold afield at h
  split at h
  · rename_i fields cs hu
    split at h
    · rename_i fd hf
      obtain ⟨cs', rfl, hl⟩ := agg_rel hx
      obtain ⟨v', hr, hrel⟩ := part_sound hE hl h w
      refine ⟨v', ?_, hrel⟩
      have hf' : fields[f]? = some fd := by simpa using hf
      unfold Instr.field
      simp [run_underlying (hE.under _ _ hu), hf', asAgg, hr]
    · cases h
  · cases h

theorem indexAddr_sound {E : Env} (hE : E.Ok) {ι : Inj} {ty : TypeId} {x x' i i' : Value} (hx : VRel ι x x') (hi : VRel ι i i') {v : Value} (h : aindexAddr E ty x i = some v) (w : World) :
    ∃ v', (Instr.indexAt ty x' i').run E.P w = .ok v' w ∧ VRel ι v v' := by
  unfold aindexAddr at h
  split at h
  · rename_i elem a len c k j hu
    cases hi
    split at h
    · rename_i n b z hinf
      split at h
      · rename_i hc
        obtain rfl := Option.some.inj h
        obtain ⟨h0, hlt, hs⟩ := hc
        unfold Instr.indexAt
        cases hx with
        | slice hb hn hcc hxx hbb =>
          rename_i b o c' I
          refine ⟨.pointer (some ⟨I.B, I.s + o + j.toNat * n, none⟩), ?_, ?_⟩
          · simp [asIntOf, run_underlying (hE.under _ _ hu), size_run hE hinf, h0, hlt, add_none]
          · rw [add_none, Nat.add_assoc]; exact .ptr hb
        | zslice => omega
        | xslice => omega
      · cases h
    · cases h
  · rename_i len elem a k j hu
    cases hi
    split at h
    · rename_i n b z hinf
      split at h
      · rename_i hc
        obtain rfl := Option.some.inj h
        obtain ⟨h0, hlt, hs⟩ := hc
        unfold Instr.indexAt
        cases hx with
        | ptr hb =>
          rename_i b o I
          refine ⟨.pointer (some ⟨I.B, I.s + o + j.toNat * n, none⟩), ?_, ?_⟩
          · simp [asIntOf, Instr.sureAddr, run_underlying (hE.under _ _ hu), size_run hE hinf, h0, hlt, add_none]
          · rw [add_none, Nat.add_assoc]; exact .ptr hb
      · cases h
    · cases h
  · cases h

theorem index_sound {E : Env} (hE : E.Ok) {ι : Inj} {ty : TypeId} {x x' i i' : Value} (hx : VRel ι x x') (hi : VRel ι i i') {v : Value} (h : aindex E ty x i = some v) (w : World) :
    ∃ v', (Instr.index ty x' i').run E.P w = .ok v' w ∧ VRel ι v v' := by
  unfold aindex at h
  split at h
  · rename_i len elem cs k j hu
    cases hi
    obtain ⟨cs', rfl, hl⟩ := agg_rel hx
    split at h
    · rename_i n b z hinf
      split at h
      · rename_i hc
        obtain ⟨v', hr, hrel⟩ := part_sound hE hl h w
        refine ⟨v', ?_, hrel⟩
        unfold Instr.index
        simp [asIntOf, run_underlying (hE.under _ _ hu), size_run hE hinf, hc.1, hc.2, hr]
      · cases h
    · cases h
  · cases h

/-! ### slices of slices -/
theorem bound_run {P : Program} {v : Value} {dflt most m : Nat} {most' : Nat} (h : abound (some v) dflt most = some m) (hm : most ≤ most') (code : BoundsCode) (w : World) :
    (Instr.sliceBound v most' code).run P w = .ok m w ∧ m ≤ most := by
  unfold abound at h
  split at h
  · rename_i hh; cases hh
  · rename_i k i hh
    obtain rfl := Option.some.inj hh
    split at h
    · rename_i hc
      obtain rfl := Option.some.inj h
      obtain ⟨h0, h1⟩ := hc
      have h2 : i ≤ (most' : Int) := by omega
      refine ⟨?_, by omega⟩
      unfold Instr.sliceBound
      simp [asIntOf, h0, h2]
    · cases h
  · cases h

theorem abound_flat {ι : Inj} {v v' : Value} {d m k : Nat} (h : abound (some v) d m = some k) (hv : VRel ι v v') : v' = v := by
  unfold abound at h
  split at h
  · rename_i hh; cases hh
  · rename_i k i hh
    obtain rfl := Option.some.inj hh
    cases hv; rfl
  · cases h

/-- optional operands that are related -/
def ORelv (ι : Inj) : Option Value → Option Value → Prop
  | none, none => True
  | some a, some b => VRel ι a b
  | _, _ => False

/-- the three bounds of a slice expression; the model may have more room than the abstract machine -/
theorem bounds_run {P : Program} {ι : Inj} {lo hi mx lo' hi' mx' : Option Value} (hlo : ORelv ι lo lo') (hhi : ORelv ι hi hi') (hmx : ORelv ι mx mx') {isS : Bool} {len cap cap' m hh l : Nat}
    (_hlen : len ≤ cap) (hcap : cap ≤ cap')
    (h1 : abound mx cap cap = some m) (h2 : abound hi (if mx.isSome then m + 1 else len) m = some hh) (h3 : abound lo 0 hh = some l) (w : World) :
    (Instr.sliceBounds isS len cap' lo' hi' mx').run P w = .ok (l, hh, if mx.isSome then m else cap') w ∧ l ≤ hh ∧ hh ≤ m ∧ m ≤ cap ∧ (mx.isSome = false → m = cap) := by
  have low : ∀ code, ∃ lr : Sem Nat, (match lo' with | some v => Instr.sliceBound v hh code | none => pure 0) = lr ∧ lr.run P w = .ok l w ∧ l ≤ hh := by
    intro code
    cases lo with
    | none =>
      cases lo' with
      | some _ => exact hlo.elim
      | none => simp [abound] at h3; subst h3; exact ⟨_, rfl, rfl, Nat.zero_le _⟩
    | some v =>
      cases lo' with
      | none => exact hlo.elim
      | some v' =>
        obtain rfl := abound_flat h3 hlo
        have := bound_run (P := P) h3 (most' := hh) (Nat.le_refl _) code w
        exact ⟨_, rfl, this.1, this.2⟩
  have fin : ∀ (code : BoundsCode) (m' : Nat), (match lo' with | some v => (do let l ← Instr.sliceBound v hh code; pure (l, hh, m')) | none => (do let l ← pure 0; pure (l, hh, m')) : Sem (Nat × Nat × Nat)).run P w = .ok (l, hh, m') w := by
    intro code m'
    obtain ⟨lr, e, hrun, _⟩ := low code
    cases lo' with
    | none => simp only at e ⊢; subst e; simp at hrun; simp [hrun]
    | some v => simp only at e ⊢; subst e; simp [hrun]
  have hl : l ≤ hh := (low .sliceB).choose_spec.2.2
  unfold Instr.sliceBounds
  cases mx with
  | none =>
    cases mx' with
    | some _ => exact hmx.elim
    | none =>
      simp [abound] at h1
      subst h1
      cases hi with
      | none =>
        cases hi' with
        | some _ => exact hhi.elim
        | none =>
          simp [abound] at h2
          obtain ⟨h2a, rfl⟩ := h2
          refine ⟨?_, hl, by omega, Nat.le_refl _, fun _ => rfl⟩
          have := fin .sliceB cap'
          cases lo' <;> simpa using this
      | some v =>
        cases hi' with
        | none => exact hhi.elim
        | some v' =>
          obtain rfl := abound_flat h2 hhi
          have h2r := bound_run (P := P) h2 (most' := cap') hcap (if isS then .sliceAcap else .sliceAlen) w
          refine ⟨?_, hl, h2r.2, Nat.le_refl _, fun _ => rfl⟩
          have := fin .sliceB cap'
          cases lo' <;> simpa [h2r.1] using this
  | some u =>
    cases mx' with
    | none => exact hmx.elim
    | some u' =>
      obtain rfl := abound_flat h1 hmx
      have h1r := bound_run (P := P) h1 (most' := cap') hcap (if isS then .slice3Acap else .slice3Alen) w
      cases hi with
      | none => simp [abound] at h2; omega
      | some v =>
        cases hi' with
        | none => exact hhi.elim
        | some v' =>
          obtain rfl := abound_flat h2 hhi
          have h2r := bound_run (P := P) h2 (most' := m) (Nat.le_refl _) .slice3B w
          refine ⟨?_, hl, h2r.2, h1r.2, fun h => by cases h⟩
          have := fin .slice3C m
          cases lo' <;> simpa [h1r.1, h2r.1] using this

/-- the slice that comes out, related -/
theorem asliceOf_rel {ι : Inj} {b o cap cap' : Nat} {I : Img} (hb : ι b = some I) (hcap : cap ≤ cap') (hx : I.ex = true → cap' = cap) (hbd : I.s + o + cap' * I.es ≤ I.sz)
    {l hh m : Nat} {mx : Bool} (h1 : l ≤ hh) (h2 : hh ≤ m) (h3 : m ≤ cap) (h4 : mx = false → m = cap) :
    VRel ι (asliceOf ⟨b, o, none⟩ I.es l hh m)
      (.slice (some (if (if mx then m else cap') = l then ⟨I.B, I.s + o, none⟩ else (⟨I.B, I.s + o, none⟩ : Addr).add (l * I.es))) (hh - l) ((if mx then m else cap') - l)) := by
  unfold asliceOf
  have room : ∀ k, l + k ≤ cap' → I.s + (o + l * I.es) + k * I.es ≤ I.sz := fun k hk => by
    have := Nat.mul_le_mul_right I.es hk
    rw [Nat.add_mul] at this
    omega
  cases mx with
  | true =>
    simp only [if_true]
    by_cases e : m = l
    · rw [if_pos e]
      have : hh - l = 0 := by omega
      have e2 : m - l = 0 := by omega
      rw [this, e2]
      exact .xslice
    · rw [if_neg e, add_none, add_none, Nat.add_assoc]
      exact .slice hb (by omega) (Nat.le_refl _) (fun _ => rfl) (room _ (by omega))
  | false =>
    have hm := h4 rfl
    subst hm
    simp only [Bool.false_eq_true, if_false]
    by_cases e : m = l
    · subst e
      have : hh - m = 0 := by omega
      rw [this, Nat.sub_self]
      by_cases e2 : cap' = m
      · rw [if_pos e2, e2, Nat.sub_self]
        exact .xslice
      · rw [if_neg e2, add_none, add_none]
        have hex : I.ex = false := by
          cases hh : I.ex with
          | false => rfl
          | true => exact absurd (hx hh) e2
        refine .zslice hb hex ?_
        have := room (cap' - m) (by omega)
        omega
    · rw [if_neg (by omega), add_none, add_none, Nat.add_assoc]
      exact .slice hb (by omega) (by omega) (fun h => by rw [hx h]) (room _ (by omega))

/-- a slice without room, cut -/
theorem slice00 {E : Env} (hE : E.Ok) {ι : Inj} {w : World} {ty elem : TypeId} {size bb : Nat} {z : Value} (hu : E.under ty = some (.slice elem)) (hi_ : E.info elem = some (size, bb, z))
    {lo hi mx lo' hi' mx' : Option Value} (hlo : ORelv ι lo lo') (hhi : ORelv ι hi hi') (hmx : ORelv ι mx mx') {m hh l : Nat} (h1 : abound mx 0 0 = some m)
    (h2 : abound hi (if mx.isSome then m + 1 else 0) m = some hh) (h3 : abound lo 0 hh = some l) (p : Option Addr) :
    m = 0 ∧ hh = 0 ∧ l = 0 ∧ (Instr.sliceAt ty (.slice p 0 0) lo' hi' mx').run E.P w = .ok (.slice p 0 0) w := by
  obtain ⟨hrun, q1, q2, q3, q4⟩ := bounds_run (P := E.P) (isS := true) hlo hhi hmx (Nat.le_refl 0) (Nat.le_refl 0) h1 h2 h3 w
  obtain rfl : m = 0 := by omega
  obtain rfl : hh = 0 := by omega
  obtain rfl : l = 0 := by omega
  refine ⟨rfl, rfl, rfl, ?_⟩
  unfold Instr.sliceAt
  rw [Sem.run_bind, run_underlying (hE.under _ _ hu), Result.andThen_ok]
  simp only
  unfold Instr.slice
  rw [Sem.run_bind, run_underlying (hE.under _ _ hu), Result.andThen_ok]
  simp only [Sem.run_bind, hrun, Result.andThen_ok, size_run hE hi_, Sem.run_pure]
  cases mx.isSome <;> cases p <;> simp

theorem slice_sound {E : Env} (hE : E.Ok) {ι : Inj} {h : AH} {w : World} (hr : HRel ι h w) {ty : TypeId} {x x' : Value} (hx : VRel ι x x') {lo hi mx lo' hi' mx' : Option Value}
    (hlo : ORelv ι lo lo') (hhi : ORelv ι hi hi') (hmx : ORelv ι mx mx') {v : Value} (hs : aslice E h ty x lo hi mx = some v) :
    ∃ v', (Instr.sliceAt ty x' lo' hi' mx').run E.P w = .ok v' w ∧ VRel ι v v' := by
  unfold aslice at hs
  split at hs
  · rename_i elem a len cap hu
    split at hs
    · rename_i hspot
      split at hs
      · rename_i inf m hh l hi_ h1 h2 h3
        split at hs
        · rename_i h00
          obtain ⟨rfl, rfl⟩ := h00
          obtain rfl := Option.some.inj hs
          obtain ⟨size, bb, z⟩ := inf
          cases hx with
          | xslice =>
            rename_i p
            have hm0 : m = 0 := by
              cases mx with
              | none => simp [abound] at h1; omega
              | some v => have := (bound_run (P := E.P) h1 (Nat.le_refl 0) .slice3Acap w).2; omega
            subst hm0
            have h2' : abound hi (if mx.isSome then 0 + 1 else 0) 0 = some hh := by simpa using h2
            have hh0 : hh = 0 := by
              cases hi with
              | none => cases hq : mx.isSome <;> simp [abound, hq] at h2' <;> omega
              | some v => have := (bound_run (P := E.P) h2' (Nat.le_refl 0) .sliceAcap w).2; omega
            subst hh0
            exact ⟨_, (slice00 hE hu hi_ hlo hhi hmx h1 h2' h3 p).2.2.2, .xslice⟩
          | slice => exact absurd rfl hspot
          | zslice => exact absurd rfl hspot
        · cases hs
      · cases hs
    rename_i hnsp
    clear hnsp
    split at hs
    · rename_i size bb z cc0 es wr ex hi_ hsp hk
      split at hs
      · cases hs
      · rename_i hes
        have hes' : size = es := Decidable.of_not_not hes
        subst hes'
        split at hs
        · cases hs
        · rename_i m h1
          split at hs
          · cases hs
          · rename_i hh h2
            split at hs
            · cases hs
            · rename_i l h3
              obtain rfl := Option.some.inj hs
              unfold Instr.sliceAt
              rw [Sem.run_bind, run_underlying (hE.under _ _ hu), Result.andThen_ok]
              simp only
              unfold Instr.slice
              rw [Sem.run_bind, run_underlying (hE.under _ _ hu), Result.andThen_ok]
              cases hx with
              | slice hb hn hcc hxx hbb =>
                rename_i b o c' I
                have hies : size = I.es := by
                  have := hr.blk b I hb
                  simp only at hk
                  rw [hk] at this
                  exact this.1
                obtain ⟨hrun, q1, q2, q3, q4⟩ := bounds_run (P := E.P) (isS := true) hlo hhi hmx hn hcc h1 h2 h3 w
                refine ⟨_, ?_, hies ▸ asliceOf_rel hb hcc hxx hbb q1 q2 q3 q4⟩
                simp only [Sem.run_bind, hrun, Result.andThen_ok, size_run hE hi_, Sem.run_pure, hies]
                congr 2
                cases mx.isSome <;> (simp only [if_true, if_false, Bool.false_eq_true]; split <;> simp_all)
              | zslice hb hxx hbb =>
                rename_i b o o' c' I
                have hies : size = I.es := by
                  have := hr.blk b I hb
                  simp only at hk
                  rw [hk] at this
                  exact this.1
                obtain ⟨hrun, q1, q2, q3, q4⟩ := bounds_run (P := E.P) (isS := true) hlo hhi hmx (Nat.le_refl 0) (Nat.zero_le c') h1 h2 h3 w
                have hm0 : m = 0 := by omega
                have hl0 : l = 0 := by omega
                have hh0 : hh = 0 := by omega
                subst hm0 hl0 hh0
                have ha0 : (⟨I.B, o', none⟩ : Addr).add (0 * size) = ⟨I.B, o', none⟩ := by rw [add_none]; simp
                cases hmxs : mx.isSome with
                | true =>
                  simp only [hmxs, if_true] at hrun
                  refine ⟨.slice (some ⟨I.B, o', none⟩) 0 0, ?_, ?_⟩
                  · simp [hrun, size_run hE hi_]
                  · simp only [asliceOf, Nat.sub_self]; exact .xslice
                | false =>
                  simp only [hmxs, Bool.false_eq_true, if_false] at hrun
                  refine ⟨.slice (some ⟨I.B, o', none⟩) 0 c', ?_, ?_⟩
                  · simp only [Sem.run_bind, hrun, Result.andThen_ok, size_run hE hi_, Sem.run_pure, Option.map_some, ha0, Nat.sub_zero]
                    split <;> rfl
                  · simp only [asliceOf, Nat.sub_self, add_none]; exact .zslice hb hxx hbb
              | xslice =>
                rename_i p
                obtain ⟨rfl, rfl, rfl, hq⟩ := slice00 (w := w) hE hu hi_ hlo hhi hmx (by
                  have : m = 0 := by
                    cases mx with
                    | none => simp [abound] at h1; omega
                    | some v => have := (bound_run (P := E.P) h1 (Nat.le_refl 0) .slice3Acap w).2; omega
                  subst this; exact h1) h2 h3 p
                unfold Instr.sliceAt at hq
                rw [Sem.run_bind, run_underlying (hE.under _ _ hu), Result.andThen_ok] at hq
                simp only at hq
                unfold Instr.slice at hq
                rw [Sem.run_bind, run_underlying (hE.under _ _ hu), Result.andThen_ok] at hq
                refine ⟨_, hq, ?_⟩
                simp only [asliceOf, Nat.sub_self]
                exact .xslice
    · cases hs
  · rename_i elem hu
    cases hx
    split at hs
    · rename_i inf m hi_ h1
      split at hs
      · rename_i hh l h2 h3
        obtain rfl := Option.some.inj hs
        obtain ⟨size, bb, z⟩ := inf
        have hm0 : m = 0 := by
          cases mx with
          | none => simp [abound] at h1; omega
          | some v => have := (bound_run (P := E.P) h1 (Nat.le_refl 0) .slice3Acap w).2; omega
        subst hm0
        have h2' : abound hi (if mx.isSome then 0 + 1 else 0) 0 = some hh := by simpa using h2
        have hh0 : hh = 0 := by
          cases hi with
          | none => cases hq : mx.isSome <;> simp [abound, hq] at h2' <;> omega
          | some v => have := (bound_run (P := E.P) h2' (Nat.le_refl 0) .sliceAcap w).2; omega
        subst hh0
        obtain ⟨hrun, q1, q2, q3, q4⟩ := bounds_run (P := E.P) (isS := true) hlo hhi hmx (Nat.le_refl 0) (Nat.le_refl 0) h1 h2' h3 w
        have hl0 : l = 0 := by omega
        subst hl0
        refine ⟨.slice none 0 0, ?_, .nilSlice⟩
        unfold Instr.sliceAt
        rw [Sem.run_bind, run_underlying (hE.under _ _ hu), Result.andThen_ok]
        simp only
        unfold Instr.slice
        rw [Sem.run_bind, run_underlying (hE.under _ _ hu), Result.andThen_ok]
        simp only [Sem.run_bind, hrun, Result.andThen_ok, size_run hE hi_, Sem.run_pure, Option.map_none]
        cases mx.isSome <;> simp
      · cases hs
    · cases hs
  · rename_i n elem a hu
    split at hs
    · rename_i size bb z c es wr hi_ hsp hk
      split at hs
      · cases hs
      · rename_i hes
        have hes' : size = es := Decidable.of_not_not fun e => hes (.inl e)
        have hroom : a.off + n * size ≤ c.length := Nat.le_of_not_lt fun e => hes (.inr e)
        subst hes'
        split at hs
        · cases hs
        · rename_i m h1
          split at hs
          · cases hs
          · rename_i hh h2
            split at hs
            · cases hs
            · rename_i l h3
              obtain rfl := Option.some.inj hs
              cases hx with
              | ptr hb =>
                rename_i b o I
                have hblk := hr.blk b I hb
                simp only at hk
                rw [hk] at hblk
                obtain ⟨hies, hiex, c', el, fr, _, hsz, hle, _, _⟩ := hblk
                obtain ⟨hrun, q1, q2, q3, q4⟩ := bounds_run (P := E.P) (isS := false) hlo hhi hmx (Nat.le_refl n) (Nat.le_refl n) h1 h2 h3 w
                refine ⟨_, ?_, hies ▸ asliceOf_rel hb (Nat.le_refl n) (fun _ => rfl) (by rw [← hies]; simp only at hroom; omega) q1 q2 q3 q4⟩
                unfold Instr.sliceAt
                rw [Sem.run_bind, run_underlying (hE.under _ _ hu), Result.andThen_ok]
                simp only [Instr.sureAddr, Sem.run_bind, Sem.run_pure, Result.andThen_ok, hrun, size_run hE hi_, hies]
    · cases hs
  · cases hs

end Go.AM
