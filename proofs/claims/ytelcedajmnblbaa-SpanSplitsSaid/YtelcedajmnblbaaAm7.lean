/-
  AM, part 7: make, append, copy, min, max, len.
-/
import Derived.Test.YtelcedajmnblbaaAm6
set_option linter.unusedVariables false
set_option linter.unusedSimpArgs false
namespace Go.AM

theorem makeSlice_sound {E : Env} (hE : E.Ok) {ι : Inj} {h h' : AH} {w : World} (hr : HRel ι h w) {ty : TypeId} {k k' : IntKind} {l c : Int} {v : Value}
    (hm : amakeSlice E h ty l c = some (v, h')) :
    ∃ v' w' ι', (Instr.makeSlice ty (.int k l) (.int k' c)).run E.P w = .ok v' w' ∧ VRel ι' v v' ∧ HRel ι' h' w' ∧ Ext ι h w ι' h' w' := by
  unfold amakeSlice at hm
  split at hm
  · rename_i elem hu
    split at hm
    · rename_i size bytes z hi
      split at hm
      · rename_i hc
        obtain ⟨hz, h0, hzl, hl0, hlc, hcs, hbs⟩ := hc
        simp only [Option.some.injEq, Prod.mk.injEq] at hm
        obtain ⟨rfl, rfl⟩ := hm
        have hzs : z.cells.size = size := by simpa using hzl
        obtain ⟨_, hzr, i, hti, hib, his⟩ := info_run hE hi w
        have hwl : IntKind.i64.wrap l = l := IntWalk.i64_in l (by omega)
        have hwc : IntKind.i64.wrap c = c := IntWalk.i64_in c (by omega)
        let arr : Array Value := (Array.range (c.toNat * size)).map (fun i => z.cells[i % size]!)
        have harr : arr.toList = reps c.toNat z.cells.toList := range_reps z.cells size hzs c.toNat
        have harrs : arr.size = c.toNat * size := by simp [arr]
        obtain ⟨ι', hi', hh, he⟩ := push_sound (w' := { w with heap := w.heap.push (.cells arr elem) }) hr (reps c.toNat z.cells.toList) arr elem size true true
          (by rw [reps_length, harrs, hzl]; exact Nat.le_refl _)
          (fun i x hx => by obtain ⟨x', hx', hrel⟩ := (reps_rel (flat_cells (ι := ι) hz) c.toNat).get hx; exact ⟨x', by rw [← harr] at hx'; simpa using hx', hrel⟩) rfl rfl rfl rfl
        refine ⟨.slice (some ⟨w.heap.size, 0, none⟩) l.toNat c.toNat, _, ι', ?_, ?_, hh, he⟩
        · unfold Instr.makeSlice
          have hb1 : ¬ ((bytes : Int) * c > 2 ^ 48) := by omega
          have hc0 : ¬ c < 0 := by omega
          have hl00 : ¬ l < 0 := by omega
          have hlc' : ¬ l > c := by omega
          have hcond : ((decide (c < 0) || decide ((bytes : Int) * c > 2 ^ 48)) || decide (l < 0) || decide (l > c)) = false := by simp [hc0, hl00, hlc']; omega
          simp only [Sem.run_bind, run_underlying (hE.under _ _ hu), Result.andThen_ok, asInt, asIntOf, Sem.run_pure, hti, hib, hwl, hwc, hcond]
          simp only [Bool.false_eq_true, if_false, Sem.run_bind, run_askRoom, Result.andThen_ok, size_run hE hi]
          by_cases hn : c.toNat * size = 0
          · have hr0 : ∀ f : Nat → Value, (Array.range 0).map f = #[] := fun f => Array.eq_empty_of_size_eq_zero (by simp)
            have harr0 : arr = #[] := Array.eq_empty_of_size_eq_zero (by rw [harrs, hn])
            rw [harr0]
            simp [hn, hr0, newRow]
          · rw [if_neg hn]
            simp only [Sem.run_bind, hzr, Result.andThen_ok, Sem.run_pure, hzs, newRow, run_newObj, arr]
        · have hb : c.toNat * size ≤ arr.size := by rw [harrs]; exact Nat.le_refl _
          have := VRel.slice (ι := ι') (o := 0) (n := l.toNat) (c := c.toNat) (c' := c.toNat) hi' (by omega) (Nat.le_refl _) (fun _ => rfl) (by simpa using hb)
          simpa using this
      · cases hm
    · cases hm
  · cases hm

/-! ### the cells of a slice -/
theorem loadCells_zero (P : Program) (a : Addr) (w : World) : (loadCells a 0).run P w = .ok #[] w := rfl

theorem firstCells_sound {P : Program} {ι : Inj} {h : AH} {w : World} (hr : HRel ι h w) {base base' : Option Addr} {n c n' c' size : Nat} (hx : VRel ι (.slice base n c) (.slice base' n' c'))
    {l : List Value} (hs : sliceCells h size (.slice base n c) = some l) :
    l.length = n * size ∧ ∃ l' : List Value, (∀ w₂ : World, w₂.heap = w.heap → (Builtin.firstCells size n (.slice base' n' c')).run P w₂ = .ok l'.toArray w₂) ∧ LRel ι l l' := by
  have zero : ∀ (a : Addr) (m : Nat) (w₂ : World), m = 0 → (loadCells a (m * size)).run P w₂ = .ok #[] w₂ := fun a m w₂ e => by subst e; rw [Nat.zero_mul]; rfl
  cases hx with
  | nilSlice =>
    simp only [sliceCells, Option.some.injEq] at hs
    subst hs
    exact ⟨by simp, [], fun _ _ => rfl, LRel.nil ι⟩
  | slice hb hn hc hxx hbb =>
    rename_i b o I
    simp only [sliceCells] at hs
    split at hs
    · rename_i e
      obtain rfl := Option.some.inj hs
      exact ⟨by simp [e], [], fun w₂ _ => by simpa [Builtin.firstCells] using zero _ n w₂ e, LRel.nil ι⟩
    · obtain ⟨l', hrel, hn', hcell⟩ := rowAt hr hb hs
      refine ⟨hn', l', fun w₂ he => ?_, hrel⟩
      simp only [Builtin.firstCells]
      rw [← hn', hrel.1]
      exact run_loadCells_list w₂ _ _ fun j v hj => by
        have := hcell j v hj
        unfold World.cell? at this ⊢
        rw [he]; exact this
  | zslice hb hxx hbb =>
    simp only [sliceCells, if_true, Option.some.injEq] at hs
    subst hs
    exact ⟨by simp, [], fun w₂ _ => by simpa [Builtin.firstCells] using zero _ 0 w₂ rfl, LRel.nil ι⟩
  | xslice =>
    simp only [sliceCells, if_true, Option.some.injEq] at hs
    subst hs
    cases base' with
    | none => exact ⟨by simp, [], fun _ _ => rfl, LRel.nil ι⟩
    | some a' => exact ⟨by simp, [], fun w₂ _ => by simpa [Builtin.firstCells] using zero _ 0 w₂ rfl, LRel.nil ι⟩

theorem growBy_le (newLen : Nat) : ∀ (r c : Nat), c < newLen → Builtin.growBy newLen r c ≤ newLen + newLen / 4 + 192
  | 0, c, h => by simp only [Builtin.growBy]; omega
  | r + 1, c, h => by
    simp only [Builtin.growBy]
    split
    · omega
    · by_cases h2 : c + (c + 768) / 4 < newLen
      · exact growBy_le newLen r _ h2
      · cases r with
        | zero => simp only [Builtin.growBy]; omega
        | succ r => simp only [Builtin.growBy]; rw [if_pos (by omega)]; omega
theorem nextslicecap_le {newLen oldCap : Nat} (h : oldCap < newLen) : Builtin.nextslicecap newLen oldCap ≤ newLen + newLen / 4 + 512 := by
  unfold Builtin.nextslicecap
  split
  · omega
  · split
    · omega
    · have := growBy_le newLen 4 oldCap h
      omega

theorem zeroCells_size (z : Array Value) (n : Nat) : (Builtin.zeroCells z n).size = n * z.size := by simp [Builtin.zeroCells]

/-- the world behind a draw and a new row -/
theorem grownRow {ι : Inj} {h : AH} {w : World} (hr : HRel ι h w) (cs : List Value) (cs' : List Value) (hc : LRel ι cs cs') (rest : Array Value) (elem : TypeId) (size : Nat) {nk newCap : Nat}
    (hlen : (cs' ++ rest.toList).length = newCap * size) (hle : nk ≤ newCap) :
    ∃ ι', VRel ι' (.slice (some ⟨h.n, 0, none⟩) nk nk) (.slice (some ⟨w.heap.size, 0, none⟩) nk newCap) ∧
      HRel ι' (h.push (.cells cs size true false)) { w with heap := w.heap.push (.cells (cs'.toArray ++ rest) elem), drawn := w.drawn + 1 } ∧
      Ext ι h w ι' (h.push (.cells cs size true false)) { w with heap := w.heap.push (.cells (cs'.toArray ++ rest) elem), drawn := w.drawn + 1 } := by
  have hsz : (cs'.toArray ++ rest).size = newCap * size := by simpa using hlen
  obtain ⟨ι', hi', hh, he⟩ := push_sound (w' := { w with heap := w.heap.push (.cells (cs'.toArray ++ rest) elem), drawn := w.drawn + 1 }) hr cs (cs'.toArray ++ rest) elem size true false
    (by rw [hc.1]; simp)
    (fun i x hx => by
      obtain ⟨x', hx', hrel⟩ := hc.get hx
      have hi := (List.getElem?_eq_some_iff.1 hx').1
      exact ⟨x', by rw [Array.getElem?_append_left (by simpa using hi)]; simpa using hx', hrel⟩) rfl rfl rfl rfl
  refine ⟨ι', ?_, hh, he⟩
  have := VRel.slice (ι := ι') (o := 0) (n := nk) (c := nk) (c' := newCap) hi' (Nat.le_refl _) hle (fun h => by cases h) (by simpa using Nat.le_of_eq hsz.symm)
  simpa using this

theorem append_sound {E : Env} (hE : E.Ok) {ι : Inj} {h h' : AH} {w : World} (hr : HRel ι h w) {sT xT ty : TypeId} {s s' x x' : Value} (hs : VRel ι s s') (hx : VRel ι x x') {v : Value}
    (ha : aappend E h sT xT s x = some (v, h')) :
    ∃ v' w' ι', (Builtin.append_ #[sT, xT] ty #[s', x']).run E.P w = .ok v' w' ∧ VRel ι' v v' ∧ HRel ι' h' w' ∧ Ext ι h w ι' h' w' := by
  unfold aappend at ha
  split at ha
  case h_2 => cases ha
  rename_i elem xe hu hux
  split at ha
  case h_2 => cases ha
  rename_i size bytes z base n c xb k xc hi
  split at ha
  case isFalse => cases ha
  rename_i hcond
  obtain ⟨hz, h0, hzl, hroom, hmost, hby⟩ := hcond
  split at ha
  case h_2 => cases ha
  rename_i old new hold hnew
  split at ha
  case isFalse => cases ha
  rename_i hone
  have hzs : z.cells.size = size := by simpa using hzl
  -- the two slices as the model has them
  obtain ⟨base', c', rfl⟩ : ∃ base' c', s' = .slice base' n c' := by cases hs <;> exact ⟨_, _, rfl⟩
  obtain ⟨xb', xc', rfl⟩ : ∃ xb' xc', x' = .slice xb' k xc' := by cases hx <;> exact ⟨_, _, rfl⟩
  obtain ⟨holdl, old', hold', horel⟩ := firstCells_sound (P := E.P) hr hs hold
  obtain ⟨hnewl, new', hnew', hnrel⟩ := firstCells_sound (P := E.P) hr hx hnew
  have hnone : ∀ u ∈ new', u.oneCell' = true := fun u hu' => by
    obtain ⟨i, hi⟩ := List.getElem?_of_mem hu'
    obtain ⟨y, hy, hrel⟩ := hnrel.get' hi
    rw [hrel.oneCell]
    exact List.all_eq_true.1 hone y (List.mem_of_getElem? hy)
  -- the run where there is room
  have runIn : ∀ w', n + k ≤ c' → (∀ a, base' = some a → (storeCells (a.add (n * size)) new').run E.P w = .ok () w') → (base' = none → w' = w) →
      (Builtin.append_ #[sT, xT] ty #[.slice base' n c', .slice xb' k xc']).run E.P w = .ok (.slice base' (n + k) c') w' := by
    intro w' hfit hst hno
    have hn1 := hnew' w rfl
    unfold Builtin.append_
    cases base' with
    | none =>
      obtain rfl := hno rfl
      simp [run_underlying (hE.under _ _ hu), run_underlying (hE.under _ _ hux), size_run hE hi, Builtin.lenOf, hfit, hn1]
    | some a =>
      simp [run_underlying (hE.under _ _ hu), run_underlying (hE.under _ _ hux), size_run hE hi, Builtin.lenOf, hfit, hn1, hst a rfl]
  let nc : Nat := (Question.appendCap (n + k) c' elem).cut (w.tape w.drawn (.appendCap (n + k) c' elem))
  have hnc : n + k ≤ nc := by simp only [nc, Question.cut]; omega
  -- the run where there is none
  have runOut : c' < n + k → (Builtin.append_ #[sT, xT] ty #[.slice base' n c', .slice xb' k xc']).run E.P w =
      .ok (.slice (some ⟨w.heap.size, 0, none⟩) (n + k) nc)
        { w with heap := w.heap.push (.cells ((old' ++ new').toArray ++ Builtin.zeroCells z.cells (nc - (n + k))) elem), drawn := w.drawn + 1 } := by
    intro hfit
    have hnf : ¬ n + k ≤ c' := by omega
    have hcap := nextslicecap_le hfit
    have hbig : ¬ (Builtin.nextslicecap (n + k) c' * bytes > 2 ^ 48) := by
      have h1 := Nat.mul_le_mul_right bytes hcap
      rw [Nat.add_mul, Nat.add_mul] at h1
      have h2 : 512 * bytes ≤ 512 * 2 ^ 32 := Nat.mul_le_mul_left _ hby
      have h3 : (n + k) / 4 * bytes ≤ (n + k) * bytes / 4 := by
        rw [Nat.le_div_iff_mul_le (by omega), Nat.mul_right_comm]
        exact Nat.mul_le_mul_right bytes (Nat.div_mul_le_self _ _)
      omega
    have hmax : ¬ (9223372036854775807 < (n : Int) + (k : Int) ∧ bytes = 0) := fun h => by have := h.1; omega
    have ho2 := hold' w.drew rfl
    have hn2 := hnew' w.drew rfl
    obtain ⟨_, hzr, i, hti, hib, his⟩ := info_run hE hi w
    obtain ⟨_, hzr2, i2, hti2, hib2, his2⟩ := info_run hE hi w.drew
    have hbig' : ¬ (281474976710656 < Builtin.nextslicecap (n + k) c' * bytes) := by omega
    unfold Builtin.append_
    simp [run_underlying (hE.under _ _ hu), run_underlying (hE.under _ _ hux), size_run hE hi, Builtin.lenOf, hnf, hbig', hmax, hti, hib, Question.forced, ho2, hn2, hzr2, hti2, newRow, nc]
    have e : ∀ Z : Array Value, (old' ++ new').toArray ++ Z = old'.toArray ++ (new'.toArray ++ Z) := fun Z => by apply Array.ext'; simp
    rw [e]
    rfl
  have hrest : (new'.length = k * size) := by rw [← hnrel.1]; exact hnewl
  have holdn : (old'.length = n * size) := by rw [← horel.1]; exact holdl
  have hfull : ((old' ++ new') ++ (Builtin.zeroCells z.cells (nc - (n + k))).toList).length = nc * size := by
    simp only [List.length_append, Array.length_toList, zeroCells_size, hzs, hrest, holdn]
    rw [← Nat.add_mul, ← Nat.add_mul]; congr 1; omega
  by_cases hfit : n + k ≤ c'
  · -- there is room in the model
    cases base with
    | none =>
      cases hs
      have hk : k = 0 := by omega
      subst hk
      simp only [if_true, Option.some.injEq, Prod.mk.injEq] at ha
      obtain ⟨rfl, rfl⟩ := ha
      exact ⟨.slice none 0 0, w, ι, runIn w hfit (fun a h => by cases h) (fun _ => rfl), .nilSlice, hr, Ext.refl ι h w⟩
    | some a =>
      simp only at ha
      split at ha
      · rename_i hspot
        cases hs with
        | slice => exact absurd rfl hspot
        | zslice => exact absurd rfl hspot
        | xslice =>
          have hk0 : k = 0 := by omega
          rw [if_pos hk0] at ha
          simp only [Option.some.injEq, Prod.mk.injEq] at ha
          obtain ⟨rfl, rfl⟩ := ha
          have : new' = [] := List.eq_nil_of_length_eq_zero (by rw [hrest, hk0]; simp)
          subst hk0
          exact ⟨_, w, ι, runIn w hfit (fun a' e => by rw [this]; rfl) (fun _ => rfl), .xslice, hr, Ext.refl ι _ w⟩
      rename_i hspot
      have hspot' : a.spot = none := Decidable.of_not_not hspot
      split at ha
      case h_2 => cases ha
      rename_i cc es wr ex hk
      split at ha
      · cases ha
      rename_i hes
      have hes' : es = size := Decidable.of_not_not hes
      subst hes'
      have nostore : k = 0 → ∀ a', base' = some a' → (storeCells (a'.add (n * es)) new').run E.P w = .ok () w := fun e a' _ => by
        have : new' = [] := List.eq_nil_of_length_eq_zero (by rw [hrest, e]; simp)
        rw [this]; rfl
      have nok : k = 0 → ∃ v' w' ι', (Builtin.append_ #[sT, xT] ty #[.slice base' n c', .slice xb' k xc']).run E.P w = .ok v' w' ∧ VRel ι' (.slice (some a) n c) v' ∧ HRel ι' h w' ∧ Ext ι h w ι' h w' := fun e => by
        refine ⟨_, w, ι, runIn w hfit (nostore e) (fun _ => rfl), ?_, hr, Ext.refl ι h w⟩
        subst e; exact hs
      split at ha
      · rename_i hfitA
        split at ha
        · rename_i hk0
          simp only [Option.some.injEq, Prod.mk.injEq] at ha
          obtain ⟨rfl, rfl⟩ := ha
          exact nok hk0
        · rename_i hk0
          split at ha
          case isFalse => cases ha
          rename_i hwr
          simp only [Option.map_eq_some_iff, Prod.mk.injEq] at ha
          obtain ⟨h2, hset, rfl, rfl⟩ := ha
          cases hs with
          | slice hb hn hc hxx hbb =>
            rename_i b o I
            rw [add_none] at hset
            obtain ⟨w', hrun, hh, he⟩ := storeCells_sound (P := E.P) hr hb hnrel hset
            refine ⟨_, w', ι, runIn w' hfit (fun a' e => ?_) (fun e => by cases e), .slice hb hfitA hc hxx hbb, hh, he⟩
            obtain rfl := Option.some.inj e
            rw [add_none, Nat.add_assoc]; exact hrun
          | zslice => omega
          | xslice => omega
      · rename_i hfitA
        split at ha
        · cases ha
        rename_i hkw
        simp only [Option.some.injEq, Prod.mk.injEq] at ha
        obtain ⟨rfl, rfl⟩ := ha
        -- the abstract machine copies; the model goes on in place
        have core : ∀ (b o s' : Nat) (I : Img), a = ⟨b, o, none⟩ → ι b = some I → I.ex = false → base' = some ⟨I.B, s', none⟩ → s' + c' * I.es ≤ I.sz →
            (∀ (i : Nat) v, old[i]? = some v → ∃ v', w.cell? ⟨I.B, s' + i, none⟩ = some v' ∧ VRel ι v v') →
            ∃ v' w' ι', (Builtin.append_ #[sT, xT] ty #[.slice base' n c', .slice xb' k xc']).run E.P w = .ok v' w' ∧
              VRel ι' (.slice (some ⟨h.n, 0, none⟩) (n + k) (n + k)) v' ∧
              HRel ι' ((if ex = false then h.upd a.block .dead else h).push (.cells (old ++ new) es true false)) w' ∧
              Ext ι h w ι' ((if ex = false then h.upd a.block .dead else h).push (.cells (old ++ new) es true false)) w' := by
          intro b o s' I ea hb hxx eb hbb hcells
          subst ea eb
          have hblk := hr.blk b I hb
          simp only at hk
          rw [hk] at hblk
          obtain ⟨hies, hiex, cc', el, fr, h3, h4, h5, h6, h7⟩ := hblk
          have hex : ex = false := hiex.trans hxx
          subst hex
          have hlim : h.lim ≤ b := Nat.le_of_not_lt fun hlt => hkw ⟨rfl, .inr hlt⟩
          have hwr : wr = true := by
            cases wr with
            | true => rfl
            | false => simp at hkw
          subst hwr
          obtain rfl := h6 rfl
          have hnk : (n + k) * es ≤ c' * es := Nat.mul_le_mul_right es hfit
          rw [Nat.add_mul] at hnk
          rw [← hies] at hbb
          have hst := run_storeCells_at E.P I.B (s' + n * es) el new' 0 cc' w h3 (by rw [hrest, h4]; omega) hnone
          simp only [Nat.add_zero] at hst
          let arr := (cc'.toList.take (s' + n * es) ++ new' ++ cc'.toList.drop (s' + n * es + new'.length)).toArray
          have harr : (w.setRow I.B arr).heap[I.B]? = some (.cells arr el (0, 0)) := setRow_heap w I.B cc' arr el (0, 0) h3
          have hasz : arr.size = cc'.size := by
            simp only [arr, List.size_toArray, List.length_append, List.length_take, List.length_drop, Array.length_toList]
            rw [hrest]; omega
          have hget : ∀ i, i < n * es + k * es → arr[s' + i]? = if i < n * es then cc'[s' + i]? else new'[i - n * es]? := by
            intro i hi'
            have hl : (cc'.toList.take (s' + n * es)).length = s' + n * es := by simp; omega
            simp only [arr, List.getElem?_toArray]
            rw [List.append_assoc, List.getElem?_append, hl]
            by_cases e1 : i < n * es
            · rw [if_pos e1, if_pos (by omega), List.getElem?_take, if_pos (by omega)]; simp
            · rw [if_neg e1, if_neg (by omega), List.getElem?_append, if_pos (by omega)]
              congr 1; omega
          obtain ⟨ι', hi', hh, he⟩ := grow_sound (w' := w.setRow I.B arr) hr hb (mut_of (by rw [hk]; rfl) hlim) s' (.cells (old ++ new) es true false)
            (by
              rw [harr]
              refine ⟨hies, hxx.symm, arr, el, (0, 0), rfl, hasz.trans h4, ?_, fun _ => rfl, fun i v hv => ?_⟩
              · simp only [List.length_append, holdl, hnewl]; omega
              · have hlt := (List.getElem?_eq_some_iff.1 hv).1
                simp only [List.length_append, holdl, hnewl] at hlt
                rw [hget i hlt]
                rw [List.getElem?_append, holdl] at hv
                by_cases e1 : i < n * es
                · rw [if_pos e1] at hv ⊢
                  obtain ⟨v', hv', hrel⟩ := hcells i v hv
                  simp only [World.cell?, h3] at hv'
                  exact ⟨v', by simpa using hv', hrel⟩
                · rw [if_neg e1] at hv ⊢
                  exact hnrel.get hv)
            (fun B hB => setRow_other w I.B B arr hB) (by simp) rfl rfl rfl
          refine ⟨.slice (some ⟨I.B, s', none⟩) (n + k) c', _, ι', runIn _ hfit (fun a' e => ?_) (fun e => by cases e), ?_, by simpa using hh, by simpa using he⟩
          · obtain rfl := Option.some.inj e
            rw [add_none]; exact hst
          · have := VRel.slice (ι := ι') (o := 0) (n := n + k) (c := n + k) (c' := c') hi' (Nat.le_refl _) hfit (fun h => by rw [hxx] at h; cases h) (by simp only [Nat.add_zero]; rw [← hies]; exact hbb)
            simpa using this
        cases hs with
        | slice hb hn hc hxx hbb =>
          rename_i b o I
          have hexf : I.ex = false := by
            cases hh : I.ex with
            | false => rfl
            | true => have := hxx hh; omega
          refine core b o (I.s + o) I rfl hb hexf rfl hbb (fun i v hv => ?_)
          simp only [sliceCells] at hold
          split at hold
          · obtain rfl := Option.some.inj hold; simp at hv
          · unfold AH.getN at hold
            simp only at hk
            simp only [hk] at hold
            split at hold
            · obtain rfl := Option.some.inj hold
              rw [List.getElem?_take] at hv
              split at hv
              · rw [List.getElem?_drop] at hv
                obtain ⟨v', hv', hrel⟩ := cellAt hr hb hk hv
                exact ⟨v', by rw [Nat.add_assoc]; exact hv', hrel⟩
              · cases hv
            · cases hold
        | zslice hb hxx hbb =>
          rename_i b o o' I
          refine core b o o' I rfl hb hxx rfl hbb (fun i v hv => ?_)
          simp only [sliceCells, if_true, Option.some.injEq] at hold
          subst hold; simp at hv
        | xslice => omega
  · -- there is none
    have hlt : c' < n + k := by omega
    have hrun := runOut hlt
    cases base with
    | none =>
      cases hs
      have hk : k ≠ 0 := by omega
      simp only [hk, if_false, Option.some.injEq, Prod.mk.injEq] at ha
      obtain ⟨rfl, rfl⟩ := ha
      obtain ⟨ι', hv, hh, he⟩ := grownRow hr (old ++ new) (old' ++ new') (horel.append hnrel) (Builtin.zeroCells z.cells (nc - (0 + k))) elem size hfull hnc
      exact ⟨_, _, ι', hrun, hv, hh, he⟩
    | some a =>
      simp only at ha
      split at ha
      · rename_i hspot
        cases hs with
        | slice => exact absurd rfl hspot
        | zslice => exact absurd rfl hspot
        | xslice =>
          have hk0 : k ≠ 0 := by omega
          rw [if_neg hk0] at ha
          simp only [Option.some.injEq, Prod.mk.injEq] at ha
          obtain ⟨rfl, rfl⟩ := ha
          obtain ⟨ι', hv, hh, he⟩ := grownRow hr (old ++ new) (old' ++ new') (horel.append hnrel) (Builtin.zeroCells z.cells (nc - (0 + k))) elem size hfull hnc
          exact ⟨_, _, ι', hrun, hv, hh, he⟩
      split at ha
      case h_2 => cases ha
      rename_i cc es wr ex hk
      split at ha
      · cases ha
      rename_i hes
      have hes' : es = size := Decidable.of_not_not hes
      subst hes'
      have hcc : c ≤ c' := by
        cases hs with
        | slice hb hn hc hxx hbb => exact hc
        | zslice => omega
        | xslice => omega
      rw [if_neg (by omega)] at ha
      split at ha
      · cases ha
      simp only [Option.some.injEq, Prod.mk.injEq] at ha
      obtain ⟨rfl, rfl⟩ := ha
      by_cases hkill : ex = false
      · simp only [hkill, if_true]
        obtain ⟨hr1, he1⟩ := kill_sound hr a.block
        obtain ⟨ι', hv, hh, he⟩ := grownRow hr1 (old ++ new) (old' ++ new') (horel.append hnrel) (Builtin.zeroCells z.cells (nc - (n + k))) elem es hfull hnc
        exact ⟨_, _, ι', hrun, hv, hh, Ext.trans hr hr1 he1 he⟩
      · simp only [hkill]
        obtain ⟨ι', hv, hh, he⟩ := grownRow hr (old ++ new) (old' ++ new') (horel.append hnrel) (Builtin.zeroCells z.cells (nc - (n + k))) elem es hfull hnc
        exact ⟨_, _, ι', hrun, hv, hh, he⟩

end Go.AM
