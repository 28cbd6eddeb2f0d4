/-
  AM, part 5: loads, stores, new variables, composite values.
-/
import Derived.Test.YtelcedajmnblbaaAm4
set_option linter.unusedVariables false
set_option linter.unusedSimpArgs false
namespace Go.AM

/-! ### small runs -/
theorem info_run {E : Env} (hE : E.Ok) {t : TypeId} {n b : Nat} {z : Value} (h : E.info t = some (n, b, z)) (w : World) :
    (sizeOf t).run E.P w = .ok n w ∧ (zeroValue t).run E.P w = .ok z w ∧ ∃ i, (typeInfo t).run E.P w = .ok i w ∧ i.bytes = b ∧ i.size = n := by
  obtain ⟨i, hi, rfl, rfl, hz⟩ := hE.info _ _ _ _ h
  have hti : (typeInfo t).run E.P w = .ok i w := by simp [typeInfo, hi]
  exact ⟨by simp [sizeOf, hti], by simp [zeroValue, hti, hz], i, hti, rfl, rfl⟩
theorem size_run {E : Env} (hE : E.Ok) {t : TypeId} {n b : Nat} {z : Value} (h : E.info t = some (n, b, z)) (w : World) : (sizeOf t).run E.P w = .ok n w := (info_run hE h w).1
theorem isAgg_run {E : Env} (hE : E.Ok) {t : TypeId} {d : TypeDesc} (h : E.under t = some d) (w : World) : (isAgg t).run E.P w = .ok (isAggD d) w := by
  unfold isAgg
  rw [Sem.run_bind, run_underlying (hE.under _ _ h), Result.andThen_ok]
  cases d <;> rfl

theorem add_none (b o k : Nat) : (⟨b, o, none⟩ : Addr).add k = ⟨b, o + k, none⟩ := by unfold Addr.add; split <;> simp_all

theorem cellAt {ι : Inj} {h : AH} {w : World} (hr : HRel ι h w) {b o : Nat} {I : Img} (hb : ι b = some I) {c : List Value} {es : Nat} {wr ex : Bool} (hk : h.b b = .cells c es wr ex)
    {v : Value} (hv : c[o]? = some v) : ∃ v', w.cell? ⟨I.B, I.s + o, none⟩ = some v' ∧ VRel ι v v' := by
  have := hr.blk b I hb
  rw [hk] at this
  obtain ⟨_, _, c', elem, fr, h3, _, _, _, h7⟩ := this
  obtain ⟨v', hv', hrel⟩ := h7 o v hv
  exact ⟨v', by simp [World.cell?, h3, hv'], hrel⟩

theorem get_sound {ι : Inj} {h : AH} {w : World} (hr : HRel ι h w) {a a' : Addr} (ha : VRel ι (.pointer (some a)) (.pointer (some a'))) {v : Value} (hg : h.get a = some v) :
    ∃ v', w.cell? a' = some v' ∧ VRel ι v v' := by
  cases ha with
  | ptr hb =>
    unfold AH.get at hg
    split at hg
    · rename_i hk; exact cellAt hr hb hk hg
    · cases hg

theorem rowAt {ι : Inj} {h : AH} {w : World} (hr : HRel ι h w) {b o n : Nat} {I : Img} (hb : ι b = some I) {l : List Value} (hg : h.getN ⟨b, o, none⟩ n = some l) :
    ∃ l', LRel ι l l' ∧ l.length = n ∧ ∀ (j : Nat) v, l'[j]? = some v → w.cell? ((⟨I.B, I.s + o, none⟩ : Addr).add j) = some v := by
  unfold AH.getN at hg
  split at hg
  · rename_i c es wr ex _ hk
    split at hg
    · rename_i hle
      obtain rfl := Option.some.inj hg
      have hblk := hr.blk b I hb
      simp only at hk
      rw [hk] at hblk
      obtain ⟨_, _, c', elem, fr, h3, h4, h5, _, h7⟩ := hblk
      have hcell : ∀ j, j < n → ∃ v', c'[I.s + o + j]? = some v' := fun j hj => ⟨c'[I.s + o + j]'(by simp at hle; omega), by simp⟩
      refine ⟨(c'.toList.drop (I.s + o)).take n, ⟨?_, ?_⟩, ?_, ?_⟩
      · simp only [List.length_take, List.length_drop, Array.length_toList]; simp at hle; omega
      · intro i x x' hx hx'
        rw [List.getElem?_take] at hx hx'
        split at hx
        · rename_i hi
          rw [if_pos hi] at hx'
          rw [List.getElem?_drop] at hx hx'
          obtain ⟨v', hv', hrel⟩ := h7 _ _ hx
          have : I.s + (o + i) = I.s + o + i := by omega
          simp only at hv'
          rw [this] at hv'
          simp only [Array.getElem?_toList] at hx'
          rw [hv'] at hx'
          obtain rfl := Option.some.inj hx'
          exact hrel
        · cases hx
      · simp at hle ⊢; omega
      · intro j v hv
        rw [List.getElem?_take] at hv
        split at hv
        · rw [List.getElem?_drop, Array.getElem?_toList] at hv
          rw [add_none]
          simp [World.cell?, h3, hv]
        · cases hv
    · cases hg
  · cases hg

theorem loadVar_sound {E : Env} (hE : E.Ok) {ι : Inj} {h : AH} {w : World} (hr : HRel ι h w) {ty : TypeId} {a a' : Addr} (ha : VRel ι (.pointer (some a)) (.pointer (some a'))) {v : Value}
    (hl : aload E h ty a = some v) : ∃ v', (loadVar ty a').run E.P w = .ok v' w ∧ VRel ι v v' := by
  unfold aload at hl
  split at hl
  · rename_i d n b z hu hi
    unfold loadVar
    rw [Sem.run_bind, isAgg_run hE hu, Result.andThen_ok]
    split at hl
    · rename_i hd
      simp only [Option.map_eq_some_iff] at hl
      obtain ⟨l, hl, rfl⟩ := hl
      cases ha with
      | ptr hb =>
        obtain ⟨l', hrel, hn, hc⟩ := rowAt hr hb hl
        subst hn
        refine ⟨.agg l'.toArray, ?_, .agg (by simpa using hrel.1) (fun i x x' p q => hrel.2 i x x' (by simpa using p) (by simpa using q))⟩
        rw [hd]
        simp only [if_true, Sem.run_bind, size_run hE hi, Result.andThen_ok]
        rw [hrel.1, run_loadCells_list w _ _ hc]
        rfl
    · rename_i hd
      obtain ⟨v', hv', hrel⟩ := get_sound hr ha hl
      refine ⟨v', ?_, hrel⟩
      rw [if_neg hd, run_load, hv']
  · cases hl

theorem writeAt_length : ∀ (vs : List Value) (c : List Value) (o : Nat), (writeAt c o vs).length = c.length
  | [], _, _ => rfl
  | v :: vs, c, o => by simp [writeAt, writeAt_length vs]
theorem writeAt_get : ∀ (vs : List Value) (c : List Value) (o i : Nat), o + vs.length ≤ c.length → (writeAt c o vs)[i]? = if o ≤ i ∧ i < o + vs.length then vs[i - o]? else c[i]?
  | [], c, o, i, _ => by simp [writeAt]; omega
  | v :: vs, c, o, i, h => by
    simp only [List.length_cons] at h
    rw [writeAt, writeAt_get vs _ _ i (by simp; omega)]
    by_cases h1 : i = o
    · subst h1
      rw [if_neg (by omega), if_pos ⟨Nat.le_refl _, by simp⟩]
      have : i < c.length := by omega
      simp [this]
    · by_cases h2 : o + 1 ≤ i ∧ i < o + 1 + vs.length
      · rw [if_pos h2, if_pos (by simp; omega)]
        have : i - o = (i - (o + 1)) + 1 := by omega
        rw [this, List.getElem?_cons_succ]
      · rw [if_neg h2, if_neg (by simp; omega), List.getElem?_set_ne (by omega)]

theorem storeCells_sound {P : Program} {ι : Inj} {h h' : AH} {w : World} (hr : HRel ι h w) {b o : Nat} {I : Img} (hb : ι b = some I) {vs vs' : List Value} (hv : LRel ι vs vs')
    (hs : h.setN ⟨b, o, none⟩ vs = some h') : ∃ w', (storeCells ⟨I.B, I.s + o, none⟩ vs').run P w = .ok () w' ∧ HRel ι h' w' ∧ Ext ι h w ι h' w' := by
  unfold AH.setN at hs
  split at hs
  · rename_i c es ex _ hk
    split at hs
    · rename_i hc
      obtain rfl := Option.some.inj hs
      obtain ⟨hle, hone, hlim⟩ := hc
      simp only at hk hle
      have hblk := hr.blk b I hb
      rw [hk] at hblk
      obtain ⟨h1, h2, c', elem, fr, h3, h4, h5, h6, h7⟩ := hblk
      obtain rfl := h6 rfl
      have hone' : ∀ v ∈ vs', v.oneCell' = true := fun v hv' => by
        obtain ⟨i, hi⟩ := List.getElem?_of_mem hv'
        obtain ⟨x, hx, hrel⟩ := hv.get' hi
        rw [hrel.oneCell]
        exact List.all_eq_true.1 hone x (List.mem_of_getElem? hx)
      have hrun := run_storeCells_at P I.B (I.s + o) elem vs' 0 c' w h3 (by rw [← hv.1]; simp only [Nat.add_zero]; omega) hone'
      simp only [Nat.add_zero] at hrun
      let new := (c'.toList.take (I.s + o) ++ vs' ++ c'.toList.drop (I.s + o + vs'.length)).toArray
      have hnew : (w.setRow I.B new).heap[I.B]? = some (.cells new elem (0, 0)) := setRow_heap w I.B c' new elem (0, 0) h3
      have hsz : new.size = c'.size := by
        simp only [new, List.size_toArray, List.length_append, List.length_take, List.length_drop, Array.length_toList]
        rw [← hv.1]; omega
      have hget : ∀ i, new[i]? = if I.s + o ≤ i ∧ i < I.s + o + vs'.length then vs'[i - (I.s + o)]? else c'[i]? := by
        intro i
        have hl : (c'.toList.take (I.s + o)).length = I.s + o := by simp; rw [h4]; omega
        simp only [new, List.getElem?_toArray]
        rw [List.append_assoc, List.getElem?_append, hl]
        by_cases a1 : i < I.s + o
        · rw [if_pos a1, if_neg (by omega), List.getElem?_take, if_pos a1]; simp
        · rw [if_neg a1, List.getElem?_append]
          by_cases a2 : i - (I.s + o) < vs'.length
          · rw [if_pos a2, if_pos (by omega)]
          · rw [if_neg a2, if_neg (by omega), List.getElem?_drop]
            simp only [Array.getElem?_toList]
            congr 1; omega
      obtain ⟨hh, he⟩ := upd_sound (w' := w.setRow I.B new) hr hb (.cells (writeAt c o vs) es true ex) (mut_of (by rw [hk]; rfl) hlim)
        (by
          rw [hnew]
          refine ⟨h1, h2, new, elem, (0, 0), rfl, hsz.trans h4, by rw [writeAt_length]; exact h5, fun _ => rfl, fun i v hi => ?_⟩
          rw [writeAt_get vs c o i hle] at hi
          rw [hget]
          split at hi
          · rename_i hr'
            rw [if_pos (by rw [← hv.1]; omega)]
            have : I.s + i - (I.s + o) = i - o := by omega
            rw [this]
            exact hv.get hi
          · rename_i hr'
            rw [if_neg (by rw [← hv.1]; omega)]
            exact h7 i v hi)
        (fun B hB => setRow_other w I.B B new hB) (by simp) rfl rfl rfl
      exact ⟨_, hrun, hh, he⟩
    · cases hs
  · cases hs

theorem storeVar_sound {E : Env} (hE : E.Ok) {ι : Inj} {h h' : AH} {w : World} (hr : HRel ι h w) {ty : TypeId} {a a' : Addr} (ha : VRel ι (.pointer (some a)) (.pointer (some a')))
    {v v' : Value} (hv : VRel ι v v') (hs : astore E h ty a v = some h') : ∃ w', (storeVar ty a' v').run E.P w = .ok () w' ∧ HRel ι h' w' ∧ Ext ι h w ι h' w' := by
  unfold astore at hs
  split at hs
  · rename_i n b z hi
    split at hs
    · rename_i hn
      cases ha with
      | ptr hb =>
        obtain ⟨w', hrun, hh, he⟩ := storeCells_sound (P := E.P) hr hb hv.cells hs
        refine ⟨w', ?_, hh, he⟩
        have hlen : v'.cells.size = n := by have := hv.cells.1; simp only [Array.length_toList] at this hn; omega
        unfold storeVar
        simp only [Sem.run_bind, size_run hE hi, Result.andThen_ok]
        simp [hlen, hrun]
    · cases hs
  · cases hs

/-! ### new variables -/
theorem newVar_sound {E : Env} {ι : Inj} {h : AH} {w : World} (hr : HRel ι h w) (ty : TypeId) (es : Nat) {v v' : Value} (hv : VRel ι v v') :
    ∃ p w' ι', (newVar ty v').run E.P w = .ok p w' ∧ VRel ι' (.pointer (some ⟨h.n, 0, none⟩)) (.pointer (some p)) ∧ HRel ι' (h.push (.cells v.cells.toList es true true)) w' ∧
      Ext ι h w ι' (h.push (.cells v.cells.toList es true true)) w' := by
  have hc := hv.cells
  obtain ⟨ι', hi, hh, he⟩ := push_sound (w' := { w with heap := w.heap.push (.cells v'.cells ty) }) hr v.cells.toList v'.cells ty es true true (by have := hc.1; simp at this ⊢; omega)
    (fun i x hx => by obtain ⟨x', hx', hrel⟩ := hc.get hx; exact ⟨x', by simpa using hx', hrel⟩) rfl rfl rfl rfl
  exact ⟨⟨w.heap.size, 0, none⟩, _, ι', by simp [newVar, newRow], by simpa using VRel.ptr (o := 0) hi, hh, he⟩

/-! ### composite values -/
theorem zipIdx_fold : ∀ (l : List Value) (k off : Nat) (c : Array Value), ((l.zipIdx k).foldl (fun cs x => cs.setIfInBounds (off + x.2) x.1) c).toList = writeAt c.toList (off + k) l
  | [], _, _, _ => rfl
  | v :: l, k, off, c => by
    simp only [List.zipIdx_cons, List.foldl_cons, writeAt]
    rw [zipIdx_fold l (k + 1) off]
    simp [Nat.add_assoc]

theorem writeAt_rel {ι : Inj} : ∀ {vs vs' c c' : List Value} (o : Nat), LRel ι vs vs' → LRel ι c c' → LRel ι (writeAt c o vs) (writeAt c' o vs')
  | [], [], _, _, _, _, hc => hc
  | [], _ :: _, _, _, _, h, _ => by have := h.1; simp at this
  | _ :: _, [], _, _, _, h, _ => by have := h.1; simp at this
  | v :: vs, v' :: vs', c, c', o, h, hc => by
    have ht := h.tail
    refine writeAt_rel (o + 1) ht.2 ⟨by simp [hc.1], fun i x x' p q => ?_⟩
    rw [List.getElem?_set] at p q
    split at p
    · rename_i e
      rw [if_pos e] at q
      rw [hc.1] at p
      split at p
      · rename_i e2
        rw [if_pos e2] at q
        obtain rfl := Option.some.inj p
        obtain rfl := Option.some.inj q
        exact ht.1
      · cases p
    · rename_i e
      rw [if_neg e] at q
      exact hc.2 i x x' p q

theorem PRel.tail {ι : Inj} {x x' : Nat × Value} {l l' : List (Nat × Value)} (h : PRel ι (x :: l) (x' :: l')) : x.1 = x'.1 ∧ VRel ι x.2 x'.2 ∧ PRel ι l l' :=
  ⟨(h.2 0 x x' rfl rfl).1, (h.2 0 x x' rfl rfl).2, by simpa using h.1, fun i y y' a b => h.2 (i + 1) y y' (by simpa using a) (by simpa using b)⟩

theorem fill_sound {ι : Inj} {place : Nat → Option (Nat × Nat)} : ∀ {parts parts' : List (Nat × Value)} {c r : List Value} {c' : Array Value}, PRel ι parts parts' → LRel ι c c'.toList →
    fillL place c parts = some r → ∃ r', Instr.fill place c' parts' = some r' ∧ LRel ι r r'.toList
  | [], [], c, r, c', _, hc, h => by simp only [fillL, Option.some.injEq] at h; subst h; exact ⟨c', rfl, hc⟩
  | [], _ :: _, _, _, _, h, _, _ => by have := h.1; simp at this
  | _ :: _, [], _, _, _, h, _, _ => by have := h.1; simp at this
  | (i, v) :: ps, (i', v') :: ps', c, r, c', hp, hc, h => by
    obtain ⟨rfl, hv, ht⟩ := hp.tail
    simp only [fillL] at h
    simp only [Instr.fill]
    split at h
    · cases h
    · rename_i off size hpl
      rw [hpl]
      simp only
      have hcells := hv.cells
      have hsz : v'.cells.size = v.cells.size := by have := hcells.1; simp at this; omega
      split at h
      · cases h
      · rename_i hn
        have hn' : ¬ ((v'.cells.size ≠ size || off + v'.cells.size > c'.size) = true) := by
          have e := hc.1
          simp at e hn ⊢
          rw [hsz]; refine ⟨hn.1, ?_⟩; omega
        rw [if_neg hn']
        refine fill_sound ht ?_ h
        rw [show (v'.cells.zipIdx.foldl (fun cs (x : Value × Nat) => cs.setIfInBounds (off + x.2) x.1) c').toList = writeAt c'.toList off v'.cells.toList from by
          rw [← Array.foldl_toList, Array.toList_zipIdx]
          have := zipIdx_fold v'.cells.toList 0 off c'
          simpa using this]
        exact writeAt_rel off hcells hc

theorem places_run {E : Env} (hE : E.Ok) (w : World) : ∀ {fs : List Field} {ps : List (Nat × Nat)}, places E fs = some ps →
    (fs.mapM fun f => Prod.mk f.offset <$> sizeOf f.type).run E.P w = .ok ps w
  | [], ps, h => by simp only [places, Option.some.injEq] at h; subst h; rfl
  | f :: fs, ps, h => by
    simp only [places] at h
    split at h
    · rename_i n b z r hi hr
      obtain rfl := Option.some.inj h
      simp [List.mapM_cons, size_run hE hi, places_run hE w hr]
    · cases h

theorem build_sound {E : Env} (hE : E.Ok) {ι : Inj} {ty : TypeId} {parts : List (Nat × Value)} {parts' : Array (Nat × Value)} (hp : PRel ι parts parts'.toList) {v : Value}
    (h : abuild E ty parts = some v) (w : World) : ∃ v', (Instr.build ty parts').run E.P w = .ok v' w ∧ VRel ι v v' := by
  have aggRel : ∀ {r : List Value} {r' : Array Value}, LRel ι r r'.toList → VRel ι (.agg r.toArray) (.agg r') := fun h =>
    .agg (by simpa using h.1) (fun i x x' p q => h.2 i x x' (by simpa using p) (by simpa using q))
  unfold abuild at h
  split at h
  · rename_i fields n b z hu hi
    split at h
    · rename_i hz
      split at h
      · rename_i ps hps
        simp only [Option.map_eq_some_iff] at h
        obtain ⟨r, hr, rfl⟩ := h
        obtain ⟨r', hf, hrel⟩ := fill_sound (c' := z.cells) hp (flat_cells hz) hr
        refine ⟨.agg r', ?_, aggRel hrel⟩
        unfold Instr.build
        have hpl := places_run hE w hps
        simp only [Sem.run_bind, (info_run hE hi w).2.1, Result.andThen_ok, run_underlying (hE.under _ _ hu)]
        simp [Array.mapM_eq_mapM_toList, hpl, hf]
      · cases h
    · cases h
  · rename_i k elem n b z hu hi
    split at h
    · rename_i hz
      split at h
      · rename_i size b' z' hie
        simp only [Option.map_eq_some_iff] at h
        obtain ⟨r, hr, rfl⟩ := h
        obtain ⟨r', hf, hrel⟩ := fill_sound (c' := z.cells) hp (flat_cells hz) hr
        refine ⟨.agg r', ?_, aggRel hrel⟩
        unfold Instr.build
        simp only [Sem.run_bind, (info_run hE hi w).2.1, Result.andThen_ok, run_underlying (hE.under _ _ hu), size_run hE hie]
        simp [hf]
      · cases h
    · cases h
  · cases h

theorem reps_length : ∀ (n : Nat) (l : List Value), (reps n l).length = n * l.length
  | 0, l => by simp [reps]
  | n + 1, l => by simp [reps, reps_length n l, Nat.add_mul]; omega
theorem reps_rel {ι : Inj} {l l' : List Value} (h : LRel ι l l') : ∀ n, LRel ι (reps n l) (reps n l')
  | 0 => LRel.nil ι
  | n + 1 => h.append (reps_rel h n)

theorem range_reps (z : Array Value) (m : Nat) (hm : z.size = m) : ∀ n, ((Array.range (n * m)).map (fun i => z[i % m]!)).toList = reps n z.toList := by
  intro n
  rw [Array.toList_map, Array.toList_range]
  induction n with
  | zero => simp [reps]
  | succ n ih =>
    have hz : (List.range m).map (fun i => z[i % m]!) = z.toList := by
      apply List.ext_getElem?
      intro i
      simp only [List.getElem?_map]
      by_cases hi : i < m
      · have : i % m = i := Nat.mod_eq_of_lt hi
        have hi' : i < z.size := by omega
        simp [hi, this, hi']
      · have hi' : ¬ i < z.size := by omega
        simp [hi, hi']
    have hsplit : (n + 1) * m = m + n * m := by rw [Nat.add_mul]; omega
    rw [hsplit, List.range_add, List.map_append, hz, reps, List.map_map]
    congr 1
    rw [← ih]
    apply List.map_congr_left
    intro i _
    simp

theorem buildSlice_sound {E : Env} (hE : E.Ok) {ι : Inj} {h h' : AH} {w : World} (hr : HRel ι h w) {ty : TypeId} {len : Nat} {parts : List (Nat × Value)} {parts' : Array (Nat × Value)}
    (hp : PRel ι parts parts'.toList) {v : Value} (hb : abuildSlice E h ty len parts = some (v, h')) :
    ∃ v' w' ι', (Instr.buildSlice ty len parts').run E.P w = .ok v' w' ∧ VRel ι' v v' ∧ HRel ι' h' w' ∧ Ext ι h w ι' h' w' := by
  unfold abuildSlice at hb
  split at hb
  · rename_i elem hu
    split at hb
    · rename_i size by_ z hi
      split at hb
      · rename_i hc
        obtain ⟨hz, h0, hzl, hsm⟩ := hc
        split at hb
        · rename_i cs hf
          simp only [Option.some.injEq, Prod.mk.injEq] at hb
          obtain ⟨rfl, rfl⟩ := hb
          have hzs : z.cells.size = size := by simpa using hzl
          have hrange := range_reps z.cells size hzs len
          obtain ⟨r', hf', hrel⟩ := fill_sound (ι := ι) (c' := (Array.range (len * size)).map (fun i => z.cells[i % size]!)) hp
            (by rw [hrange]; exact reps_rel (flat_cells hz) len) hf
          have hlen : cs.length = len * size := by
            have : ∀ (ps : List (Nat × Value)) (c r : List Value), fillL (fun i => some (i * size, size)) c ps = some r → r.length = c.length := by
              intro ps
              induction ps with
              | nil => intro c r h; simp only [fillL, Option.some.injEq] at h; rw [h]
              | cons p ps ih =>
                intro c r h
                obtain ⟨i, u⟩ := p
                simp only [fillL] at h
                split at h
                · cases h
                · rw [ih _ _ h, writeAt_length]
            rw [this _ _ _ hf, reps_length, hzl]
          have hr'l : r'.size = len * size := by have := hrel.1; simp at this; omega
          obtain ⟨ι', hi', hh, he⟩ := push_sound (w' := { w with heap := w.heap.push (.cells r' elem) }) hr cs r' elem size true true (by omega)
            (fun i x hx => by obtain ⟨x', hx', hrel'⟩ := hrel.get hx; exact ⟨x', by simpa using hx', hrel'⟩) rfl rfl rfl rfl
          refine ⟨.slice (some ⟨w.heap.size, 0, none⟩) len len, _, ι', ?_, ?_, hh, he⟩
          · unfold Instr.buildSlice
            simp only [Sem.run_bind, run_underlying (hE.under _ _ hu), Result.andThen_ok, size_run hE hi]
            rw [if_neg (by omega)]
            by_cases hl0 : len * size = 0
            · have hlen0 : len = 0 := by
                rcases Nat.mul_eq_zero.1 hl0 with h | h
                · exact h
                · omega
              subst hlen0
              have hemp : (Array.range (0 * size)).map (fun i => z.cells[i % size]!) = #[] := Array.eq_empty_of_size_eq_zero (by simp)
              have hr0 : ∀ f : Nat → Value, (Array.range 0).map f = #[] := fun f => Array.eq_empty_of_size_eq_zero (by simp)
              rw [hemp] at hf'
              simp only [hl0, if_true, Sem.run_pure, Result.andThen_ok, hr0]
              simp [hf', newRow]
            · rw [if_neg hl0]
              simp only [Sem.run_bind, (info_run hE hi w).2.1, Result.andThen_ok, hzs, Sem.run_pure]
              simp [hf', newRow]
          · have := VRel.slice (ι := ι') (o := 0) (n := len) (c := len) (c' := len) hi' (Nat.le_refl _) (Nat.le_refl _) (fun _ => rfl) (by simp [hr'l])
            simpa using this
        · cases hb
      · cases hb
    · cases hb
  · cases hb

end Go.AM
