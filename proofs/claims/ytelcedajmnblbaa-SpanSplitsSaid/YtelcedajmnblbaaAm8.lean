/-
  AM, part 8: copy, min, max, len; then every operation at once.
-/
import Derived.Test.YtelcedajmnblbaaAm7
set_option linter.unusedVariables false
set_option linter.unusedSimpArgs false
namespace Go.AM

theorem copy_sound {E : Env} (hE : E.Ok) {ι : Inj} {h h' : AH} {w : World} (hr : HRel ι h w) {dT ty : TypeId} {tys : Array TypeId} (ht : tys[0]? = some dT) {d d' x x' : Value} (hd : VRel ι d d') (hx : VRel ι x x') {v : Value}
    (ha : acopy E h dT d x = some (v, h')) :
    ∃ v' w' ι', (Builtin.copy_ tys ty #[d', x']).run E.P w = .ok v' w' ∧ VRel ι' v v' ∧ HRel ι' h' w' ∧ Ext ι h w ι' h' w' := by
  unfold acopy at ha
  split at ha
  case h_2 => cases ha
  rename_i elem hu
  split at ha
  case h_2 => cases ha
  rename_i size bb z db dn dc sb sn sc hi
  split at ha
  case isFalse => cases ha
  rename_i h0
  split at ha
  case h_2 => cases ha
  rename_i cs hcs
  obtain ⟨db', dc', rfl⟩ : ∃ db' c', d' = .slice db' dn c' := by cases hd <;> exact ⟨_, _, rfl⟩
  obtain ⟨sb', sc', rfl⟩ : ∃ sb' c', x' = .slice sb' sn c' := by cases hx <;> exact ⟨_, _, rfl⟩
  -- the source, cut to what is copied
  have hrel : ∃ l' : List Value, (Builtin.firstCells size (Nat.min sn dn) (.slice sb' sn sc')).run E.P w = .ok l'.toArray w ∧ LRel ι cs l' ∧ cs.length = Nat.min sn dn * size := by
    by_cases hm : Nat.min sn dn = 0
    · have hcs0 : cs = [] := by
        cases sb with
        | none =>
          simp only [sliceCells] at hcs
          rw [hm] at hcs
          split at hcs
          · exact (Option.some.inj hcs).symm
          · rename_i e; cases e
          · cases hcs
        | some a =>
          simp only [sliceCells, hm, if_true, Option.some.injEq] at hcs
          exact hcs.symm
      subst hcs0
      refine ⟨[], ?_, LRel.nil ι, by simp [hm]⟩
      cases sb' <;> simp [Builtin.firstCells, hm, loadCells_zero]
    · cases hx with
      | nilSlice => exact absurd (Nat.le_antisymm (Nat.min_le_left 0 dn) (Nat.zero_le _)) hm
      | slice hb hn hc hxx hbb =>
        rename_i b o I
        simp only [sliceCells, hm, if_false] at hcs
        obtain ⟨l', hrel, hlen, hcell⟩ := rowAt hr hb hcs
        refine ⟨l', ?_, hrel, hlen⟩
        simp only [Builtin.firstCells]
        rw [← hlen, hrel.1]
        exact run_loadCells_list w _ _ hcell
      | zslice => exact absurd (Nat.le_antisymm (Nat.min_le_left 0 dn) (Nat.zero_le _)) hm
      | xslice => exact absurd (Nat.le_antisymm (Nat.min_le_left 0 dn) (Nat.zero_le _)) hm
  obtain ⟨l', hrun, hl, hlen⟩ := hrel
  have run : ∀ w', (∀ a, db' = some a → (storeCells a l').run E.P w = .ok () w') → (db' = none → w' = w) →
      (Builtin.copy_ tys ty #[.slice db' dn dc', .slice sb' sn sc']).run E.P w = .ok (goInt (Nat.min sn dn : Nat)) w' := by
    intro w' h1 h2
    unfold Builtin.copy_
    cases db' with
    | none => obtain rfl := h2 rfl; simp [ht, run_underlying (hE.under _ _ hu), Builtin.lenOf, size_run hE hi, hrun]
    | some a => simp [ht, run_underlying (hE.under _ _ hu), Builtin.lenOf, size_run hE hi, hrun, h1 a rfl]
  cases db with
  | none =>
    cases hd
    simp only [Option.some.injEq, Prod.mk.injEq] at ha
    obtain ⟨rfl, rfl⟩ := ha
    have hm : Nat.min sn 0 = 0 := Nat.le_antisymm (Nat.min_le_right sn 0) (Nat.zero_le _)
    refine ⟨_, w, ι, run w (fun a e => by cases e) (fun _ => rfl), ?_, hr, Ext.refl ι h w⟩
    rw [hm]; exact .int _ _
  | some a =>
    simp only at ha
    split at ha
    · rename_i hm
      simp only [Option.some.injEq, Prod.mk.injEq] at ha
      obtain ⟨rfl, rfl⟩ := ha
      have hl0 : l' = [] := List.eq_nil_of_length_eq_zero (by rw [← hl.1, hlen, hm]; simp)
      refine ⟨_, w, ι, run w (fun a e => by rw [hl0]; rfl) (fun _ => rfl), ?_, hr, Ext.refl ι h w⟩
      rw [hm]; exact .int _ _
    · rename_i hm
      simp only [Option.map_eq_some_iff, Prod.mk.injEq] at ha
      obtain ⟨h2, hset, rfl, rfl⟩ := ha
      cases hd with
      | slice hb hn hc hxx hbb =>
        rename_i b o I
        obtain ⟨w', hst, hh, he⟩ := storeCells_sound (P := E.P) hr hb hl hset
        exact ⟨_, w', ι, run w' (fun a e => by obtain rfl := Option.some.inj e; exact hst) (fun e => by cases e), .int _ _, hh, he⟩
      | zslice => exact absurd (Nat.le_antisymm (Nat.min_le_right sn 0) (Nat.zero_le _)) hm
      | xslice => exact absurd (Nat.le_antisymm (Nat.min_le_right sn 0) (Nat.zero_le _)) hm

theorem minList_run {P : Program} {ι : Inj} : ∀ {l l' : List Value} {m r : Int} {k : IntKind}, LRel ι l l' → minList m l k = some r → ∀ w, (l'.foldlM Builtin.min2 (.int k m)).run P w = .ok (.int k r) w
  | [], [], m, r, k, _, h, w => by simp only [minList, Option.some.injEq] at h; subst h; rfl
  | [], _ :: _, _, _, _, h, _, _ => by have := h.1; simp at this
  | _ :: _, [], _, _, _, h, _, _ => by have := h.1; simp at this
  | v :: l, v' :: l', m, r, k, hl, h, w => by
    have ht := hl.tail
    cases v <;> simp only [minList] at h <;> try (cases h; done)
    rename_i k' y
    cases ht.1
    split at h
    · rename_i e
      subst e
      simp only [List.foldlM_cons, Builtin.min2, Sem.run_bind, Sem.run_pure, Result.andThen_ok]
      exact minList_run ht.2 h w
    · cases h
theorem maxList_run {P : Program} {ι : Inj} : ∀ {l l' : List Value} {m r : Int} {k : IntKind}, LRel ι l l' → maxList m l k = some r → ∀ w, (l'.foldlM Builtin.max2 (.int k m)).run P w = .ok (.int k r) w
  | [], [], m, r, k, _, h, w => by simp only [maxList, Option.some.injEq] at h; subst h; rfl
  | [], _ :: _, _, _, _, h, _, _ => by have := h.1; simp at this
  | _ :: _, [], _, _, _, h, _, _ => by have := h.1; simp at this
  | v :: l, v' :: l', m, r, k, hl, h, w => by
    have ht := hl.tail
    cases v <;> simp only [maxList] at h <;> try (cases h; done)
    rename_i k' y
    cases ht.1
    split at h
    · rename_i e
      subst e
      simp only [List.foldlM_cons, Builtin.max2, Sem.run_bind, Sem.run_pure, Result.andThen_ok]
      exact maxList_run ht.2 h w
    · cases h

theorem arr_of_list {α : Type} {a : Array α} {l : List α} (h : a.toList = l) : a = l.toArray := by subst h; simp

theorem builtin_sound {E : Env} (hE : E.Ok) {ι : Inj} {h h' : AH} {w : World} (hr : HRel ι h w) {b : Builtin} {tys : Array TypeId} {ty : TypeId} {cst : Array Bool} {vs : List Value} {vs' : Array Value}
    (hv : LRel ι vs vs'.toList) {v : Value} (ha : abuiltin E h b tys.toList vs = some (v, h')) :
    VOk ι h w ((builtin b tys ty cst vs').run E.P w) v h' := by
  have lift : ∀ {s : Sem Value}, (∃ v' w' ι', s.run E.P w = .ok v' w' ∧ VRel ι' v v' ∧ HRel ι' h' w' ∧ Ext ι h w ι' h' w') → VOk ι h w ((do pure (.value (← s)) : Sem Next).run E.P w) v h' := by
    intro s ⟨v', w', ι', h1, h2, h3, h4⟩
    exact ⟨v', w', ι', .inl (by simp [h1]), h2, h3, h4⟩
  unfold abuiltin at ha
  split at ha
  · rename_i t0 trest base n c vrest htys
    split at ha
    · rename_i elem hu
      simp only [Option.some.injEq, Prod.mk.injEq] at ha
      obtain ⟨rfl, rfl⟩ := ha
      cases hvs : vs'.toList with
      | nil => rw [hvs] at hv; have := hv.1; simp at this
      | cons y ys =>
        rw [hvs] at hv
        have hy := hv.tail.1
        refine lift ⟨_, w, ι, ?_, .int .i64 n, hr, Ext.refl ι h w⟩
        have e1 : tys[0]? = some t0 := by rw [← Array.getElem?_toList, htys]; rfl
        have e2 : vs'[0]? = some y := by rw [← Array.getElem?_toList, hvs]; rfl
        unfold Builtin.len_
        cases hy <;> simp [e1, e2, run_underlying (hE.under _ _ hu), goInt]
    · cases ha
  · rename_i k x r
    simp only [Option.map_eq_some_iff, Prod.mk.injEq] at ha
    obtain ⟨m, hm, rfl, rfl⟩ := ha
    cases hvs : vs'.toList with
    | nil => rw [hvs] at hv; have := hv.1; simp at this
    | cons y ys =>
      rw [hvs] at hv
      have ht := hv.tail
      cases ht.1
      refine lift ⟨_, w, ι, ?_, .int k m, hr, Ext.refl ι _ w⟩
      unfold Builtin.min_
      rw [hvs]
      exact minList_run ht.2 hm w
  · rename_i k x r
    simp only [Option.map_eq_some_iff, Prod.mk.injEq] at ha
    obtain ⟨m, hm, rfl, rfl⟩ := ha
    cases hvs : vs'.toList with
    | nil => rw [hvs] at hv; have := hv.1; simp at this
    | cons y ys =>
      rw [hvs] at hv
      have ht := hv.tail
      cases ht.1
      refine lift ⟨_, w, ι, ?_, .int k m, hr, Ext.refl ι _ w⟩
      unfold Builtin.max_
      rw [hvs]
      exact maxList_run ht.2 hm w
  · rename_i sT xT s x htys
    cases hvs : vs'.toList with
    | nil => rw [hvs] at hv; have := hv.1; simp at this
    | cons y ys =>
      cases ys with
      | nil => rw [hvs] at hv; have := hv.1; simp at this
      | cons z zs =>
        cases zs with
        | cons _ _ => rw [hvs] at hv; have := hv.1; simp at this
        | nil =>
          rw [hvs] at hv
          have h1 := hv.tail
          have h2 := h1.2.tail
          have e1 : tys = #[sT, xT] := arr_of_list htys
          have e2 : vs' = #[y, z] := arr_of_list hvs
          rw [e1, e2]
          exact lift (append_sound hE hr h1.1 h2.1 ha)
  · rename_i dT trest d s htys
    cases hvs : vs'.toList with
    | nil => rw [hvs] at hv; have := hv.1; simp at this
    | cons y ys =>
      cases ys with
      | nil => rw [hvs] at hv; have := hv.1; simp at this
      | cons z zs =>
        cases zs with
        | cons _ _ => rw [hvs] at hv; have := hv.1; simp at this
        | nil =>
          rw [hvs] at hv
          have h1 := hv.tail
          have h2 := h1.2.tail
          have e1 : tys[0]? = some dT := by rw [← Array.getElem?_toList, htys]; rfl
          have e2 : vs' = #[y, z] := arr_of_list hvs
          rw [e2]
          exact lift (copy_sound hE hr e1 h1.1 h2.1 ha)
  · cases ha

theorem same_some {h h' : AH} {o : Option Value} {v : Value} (hs : same h o = some (v, h')) : o = some v ∧ h' = h := by
  unfold same at hs
  split at hs
  · simp only [Option.some.injEq, Prod.mk.injEq] at hs; exact ⟨by rw [hs.1], hs.2.symm⟩
  · cases hs
theorem orElse_some {α : Type} {a : Option α} {f : Unit → Option α} {x : α} (h : orElse a f = some x) : a = some x ∨ (a = none ∧ f () = some x) := by
  cases a with
  | none => exact .inr ⟨rfl, h⟩
  | some y => exact .inl h

set_option maxHeartbeats 2000000 in
theorem aop_sound {E : Env} (hE : E.Ok) {ι : Inj} {N : Nat} {t : T} {a : Act} {h h' : AH} {w : World} (hT : TRel ι N t a) (hr : HRel ι h w) {o : Oper} {v : Value}
    (ha : aop E t h o = some (v, h')) : VOk ι h w ((execOp a.eval o).run E.P w) v h' := by
  have lift : ∀ {s : Sem Value}, (∃ v' w' ι', s.run E.P w = .ok v' w' ∧ VRel ι' v v' ∧ HRel ι' h' w' ∧ Ext ι h w ι' h' w') → VOk ι h w ((do pure (.value (← s)) : Sem Next).run E.P w) v h' := by
    intro s ⟨v', w', ι', h1, h2, h3, h4⟩
    exact ⟨v', w', ι', .inl (by simp [h1]), h2, h3, h4⟩
  have liftp : ∀ {s : Sem Value}, h' = h → (∃ v', s.run E.P w = .ok v' w ∧ VRel ι v v') → VOk ι h w ((do pure (.value (← s)) : Sem Next).run E.P w) v h' := by
    intro s e ⟨v', h1, h2⟩
    subst e
    exact lift ⟨v', w, ι, h1, h2, hr, Ext.refl ι _ w⟩
  have fall : ∀ {o : Oper}, (∀ cs b, o.op ≠ .select cs b) → same h (afall E t o) = some (v, h') → VOk ι h w ((execOp a.eval o).run E.P w) v h' := by
    intro o hns hs
    obtain ⟨h1, rfl⟩ := same_some hs
    have := afall_sound hT hns h1 w
    exact VOk.same hr this.1 this.2
  obtain ⟨dst, op, type, pos, after, guard⟩ := o
  cases op <;> simp only [aop] at ha <;> try (cases ha; done)
  case move x =>
    obtain ⟨h1, rfl⟩ := same_some ha
    exact VOk.same hr rfl (ev_sound hT h1)
  case assign x =>
    obtain ⟨h1, rfl⟩ := same_some ha
    exact VOk.same hr rfl (ev_sound hT h1)
  case pick c x y =>
    simp only [execOp]
    split at ha
    · rename_i hc
      obtain ⟨h1, rfl⟩ := same_some ha
      have hcv := ev_sound hT hc
      refine VOk.same hr ?_ (ev_sound hT h1)
      cases hcc : a.eval c <;> rw [hcc] at hcv <;> cases hcv
      simp [asBool]
    · rename_i hc
      obtain ⟨h1, rfl⟩ := same_some ha
      have hcv := ev_sound hT hc
      refine VOk.same hr ?_ (ev_sound hT h1)
      cases hcc : a.eval c <;> rw [hcc] at hcv <;> cases hcv
      simp [asBool]
    · cases ha
  case alloc elem =>
    split at ha
    · rename_i n b z hi
      split at ha
      · rename_i hz
        simp only [Option.some.injEq, Prod.mk.injEq] at ha
        obtain ⟨rfl, rfl⟩ := ha
        obtain ⟨p, w', ι', h1, h2, h3, h4⟩ := newVar_sound (E := E) hr elem (esOf E elem) (flat_refl (ι := ι) hz)
        refine lift ⟨.pointer (some p), w', ι', ?_, h2, h3, h4⟩
        simp [Instr.alloc, (info_run hE hi w).2.1, h1]
      · cases ha
    · cases ha
  case box elem x =>
    split at ha
    · rename_i u hu
      simp only [Option.some.injEq, Prod.mk.injEq] at ha
      obtain ⟨rfl, rfl⟩ := ha
      obtain ⟨p, w', ι', h1, h2, h3, h4⟩ := newVar_sound (E := E) hr elem (esOf E elem) (ev_sound hT hu)
      refine lift ⟨.pointer (some p), w', ι', ?_, h2, h3, h4⟩
      simp [Instr.box, h1]
    · cases ha
  case build ty parts =>
    split at ha
    · rename_i ps hps
      obtain ⟨h1, rfl⟩ := same_some ha
      refine liftp rfl (build_sound hE (parts' := parts.map fun (i, x) => (i, a.eval x)) (by simpa using evp_sound hT hps) h1 w)
    · cases ha
  case buildSlice ty len parts =>
    split at ha
    · rename_i ps hps
      exact lift (buildSlice_sound hE hr (parts' := parts.map fun (i, x) => (i, a.eval x)) (by simpa using evp_sound hT hps) ha)
    · cases ha
  case load ty x =>
    split at ha
    · rename_i ad hx
      obtain ⟨h1, rfl⟩ := same_some ha
      have hp := ev_sound hT hx
      cases hxx : a.eval x <;> rw [hxx] at hp <;> try (cases hp; done)
      rename_i q
      cases q with
      | none => cases hp
      | some ad' =>
        obtain ⟨v', hrun, hrel⟩ := loadVar_sound hE hr hp h1
        refine liftp rfl ⟨v', ?_, hrel⟩
        simp [Instr.loadAt, hxx, Instr.sureAddr, hrun]
    · cases ha
  case store ty x y =>
    split at ha
    · rename_i ad u hx hy
      split at ha
      · rename_i h2 hs
        simp only [Option.some.injEq, Prod.mk.injEq] at ha
        obtain ⟨rfl, rfl⟩ := ha
        have hp := ev_sound hT hx
        cases hxx : a.eval x <;> rw [hxx] at hp <;> try (cases hp; done)
        rename_i q
        cases q with
        | none => cases hp
        | some ad' =>
          obtain ⟨w', hrun, hh, he⟩ := storeVar_sound hE hr hp (ev_sound hT hy) hs
          refine ⟨undef, w', ι, .inr ⟨?_, rfl⟩, undef_rel ι, hh, he⟩
          simp [execOp, Instr.storeAt, hxx, Instr.sureAddr, hrun]
      · cases ha
    · cases ha
  case nilCheck x =>
    split at ha
    · rename_i ad hx
      simp only [Option.some.injEq, Prod.mk.injEq] at ha
      obtain ⟨rfl, rfl⟩ := ha
      have hp := ev_sound hT hx
      simp only [execOp]
      cases hxx : a.eval x <;> rw [hxx] at hp <;> try (cases hp; done)
      rename_i q
      cases q with
      | none => cases hp
      | some ad' => exact VOk.same hr rfl hp
    · cases ha
  case binOp op ty x y yt =>
    split at ha
    · rename_i u1 u2 hx hy
      rcases orElse_some ha with h1 | ⟨_, h1⟩
      · obtain ⟨h2, rfl⟩ := same_some h1
        have := fastBin_sound hE (ev_sound hT hx) (ev_sound hT hy) h2 x y w
        simp only [execOp]
        exact liftp (s := do eqGuard op ty x y (a.eval x) (a.eval y); binOp op ty (a.eval x) (a.eval y)) rfl ⟨v, this.1, this.2⟩
      · exact fall (fun cs b h => by cases h) h1
    · cases ha
  case unOp op ty x => exact fall (fun cs b h => by cases h) ha
  case convert s d x => exact fall (fun cs b h => by cases h) ha
  case makeFunc fn first captured =>
    split at ha
    · rename_i l1 l2 h1 h2
      simp only [Option.some.injEq, Prod.mk.injEq] at ha
      obtain ⟨rfl, rfl⟩ := ha
      have r1 := evs_sound hT h1
      have r2 := evs_sound hT h2
      refine liftp rfl ⟨.func fn (first.map a.eval) (captured.map a.eval), rfl, ?_⟩
      refine .func fn (by have := r1.1; simp at this ⊢; exact this) (fun i x x' p q => r1.2 i x x' (by simpa using p) (by simpa using q)) (by have := r2.1; simp at this ⊢; exact this)
        (fun i x x' p q => r2.2 i x x' (by simpa using p) (by simpa using q))
    · cases ha
  case makeSlice ty l c =>
    split at ha
    · rename_i k1 n1 k2 n2 hl hc
      have h1 := ev_sound hT hl
      have h2 := ev_sound hT hc
      have e1 : a.eval l = .int k1 n1 := by cases hh : a.eval l <;> rw [hh] at h1 <;> cases h1; rfl
      have e2 : a.eval c = .int k2 n2 := by cases hh : a.eval c <;> rw [hh] at h2 <;> cases h2; rfl
      have := makeSlice_sound hE hr (k := k1) (k' := k2) ha
      refine lift ?_
      rw [e1, e2]; exact this
    · cases ha
  case slice ty x lo hi mx =>
    split at ha
    · rename_i u l1 l2 l3 hx hlo hhi hmx
      obtain ⟨h1, rfl⟩ := same_some ha
      have conv : ∀ {y : Option Operand} {u : Option Value}, evo t y = some u → ORelv ι u (y.map a.eval) := by
        intro y u hy
        rcases evo_sound hT hy with ⟨rfl, rfl⟩ | ⟨y', u', rfl, rfl, hrel⟩
        · trivial
        · exact hrel
      exact liftp rfl (slice_sound hE hr (ev_sound hT hx) (conv hlo) (conv hhi) (conv hmx) h1)
    · cases ha
  case fieldAddr s x f =>
    split at ha
    · rename_i u hx
      obtain ⟨h1, rfl⟩ := same_some ha
      exact liftp rfl (fieldAddr_sound hE (ev_sound hT hx) h1 w)
    · cases ha
  case field s x f =>
    split at ha
    · rename_i u hx
      obtain ⟨h1, rfl⟩ := same_some ha
      exact liftp rfl (field_sound hE (ev_sound hT hx) h1 w)
    · cases ha
  case indexAddr ty x i =>
    split at ha
    · rename_i u j hx hi
      obtain ⟨h1, rfl⟩ := same_some ha
      exact liftp rfl (indexAddr_sound hE (ev_sound hT hx) (ev_sound hT hi) h1 w)
    · cases ha
  case index ty x i =>
    split at ha
    · rename_i u j hx hi
      rcases orElse_some ha with h1 | ⟨_, h1⟩
      · obtain ⟨h2, rfl⟩ := same_some h1
        exact liftp rfl (index_sound hE (ev_sound hT hx) (ev_sound hT hi) h2 w)
      · exact fall (fun cs b h => by cases h) h1
    · cases ha
  case extract x i =>
    split at ha
    · rename_i vs hx
      obtain ⟨h1, rfl⟩ := same_some ha
      have hp := ev_sound hT hx
      cases hxx : a.eval x <;> rw [hxx] at hp <;> try (cases hp; done)
      rename_i vs'
      cases hp with
      | tuple hs hp =>
        have hi := (List.getElem?_eq_some_iff.1 h1).1
        have hi2 : i < vs'.size := by simp at hi; omega
        refine liftp rfl ⟨vs'[i], ?_, hp i v vs'[i] (by simpa using h1) (by simp)⟩
        simp [Instr.extract, hxx, hi2]
    · cases ha
  case call c =>
    obtain ⟨callee, args, argTypes⟩ := c
    cases callee <;> simp only at ha <;> try (cases ha; done)
    rename_i b
    split at ha
    · rename_i vs hvs
      rcases orElse_some ha with h1 | ⟨_, h1⟩
      · have key : ∀ cst, VOk ι h w ((builtin b argTypes type cst (args.map a.eval)).run E.P w) v h' := fun cst =>
          builtin_sound hE hr (b := b) (tys := argTypes) (vs' := args.map a.eval) (by simpa using evs_sound hT hvs) h1
        simp only [execOp, resolve, invoke, pure_bind]
        exact key _
      · exact fall (fun cs b h => by cases h) h1
    · cases ha

end Go.AM
