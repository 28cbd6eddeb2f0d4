/-
  AM, part 16: what comes in, as the abstract machine's values over rows that may only be read.
-/
import Derived.Test.YtelcedajmnblbaaAm15
import Derived.ChangeArms
set_option linter.unusedVariables false
set_option linter.unusedSimpArgs false
namespace Go.AM

/-- a list of cells of type t, over the abstract heap -/
inductive Rd (P : Program) (h : AH) : TypeId → List Value → Prop
  | bool {t : TypeId} (b : Bool) (hu : P.underlying t = some .bool) : Rd P h t [.bool b]
  | int {t : TypeId} {k : IntKind} {n : Int} (hu : P.underlying t = some (.int k)) (wf : (Lit.int k n).wf = true) : Rd P h t [.int k n]
  | str {t : TypeId} (s : ByteArray) (hu : P.underlying t = some .string) (hs : s.size ≤ maxLen) : Rd P h t [.string s]
  | slice {t e : TypeId} {b len cap : Nat} {elems : List (List Value)} (hu : P.underlying t = some (.slice e)) (hbn : b < h.n) (hb : h.b b = .cells elems.flatten (P.cellsOf e) false true)
      (hc : elems.length = cap) (hl : len ≤ cap) (hm : cap ≤ maxLen)
      (hz : ∀ (i : Nat) p, elems[i]? = some p → p.length = P.cellsOf e) (he : ∀ (i : Nat) p, elems[i]? = some p → Rd P h e p) : Rd P h t [.slice (some ⟨b, 0, none⟩) len cap]
  | struct {t : TypeId} {fs : Array Field} {ps : List (List Value)} (hu : P.underlying t = some (.struct fs)) (hl : ps.length = fs.toList.length)
      (hz : ∀ (i : Nat) (f : Field) p, fs.toList[i]? = some f → ps[i]? = some p → p.length = P.cellsOf f.type)
      (hf : ∀ (i : Nat) (f : Field) p, fs.toList[i]? = some f → ps[i]? = some p → Rd P h f.type p) : Rd P h t ps.flatten

theorem Rd.mono {P : Program} {h h' : AH} (hn : h.n ≤ h'.n) (hs : ∀ b, b < h.n → h'.b b = h.b b) {t : TypeId} {cs : List Value} (hr : Rd P h t cs) : Rd P h' t cs := by
  induction hr with
  | bool b hu => exact .bool b hu
  | int hu wf => exact .int hu wf
  | str s hu hs' => exact .str s hu hs'
  | slice hu hbn hb hc hl hm hz _ ih => exact .slice hu (Nat.lt_of_lt_of_le hbn hn) ((hs _ hbn).trans hb) hc hl hm hz ih
  | struct hu hl hz _ ih => exact .struct hu hl hz ih

/-- fields that lie one behind the other -/
def tiled (P : Program) : Nat → List Field → Option Nat
  | o, [] => some o
  | o, f :: fs => if f.offset = o then tiled P (o + P.cellsOf f.type) fs else none

/-- types that are read -/
def okT (P : Program) : Nat → TypeId → Bool
  | 0, _ => false
  | n + 1, t => match P.underlying t with
    | some .bool | some (.int _) | some .string => P.cellsOf t == 1
    | some (.slice e) => P.cellsOf t == 1 && decide (0 < P.cellsOf e) && okT P n e
    | some (.struct fs) => (tiled P 0 fs.toList == some (P.cellsOf t)) && fs.toList.all (fun f => okT P n f.type)
    | _ => false

/-- the state of the reading: all rows may only be read -/
structure RoRel (ι : Inj) (h : AH) (w : World) : Prop where
  rel : HRel ι h w
  ro : ∀ b, (h.b b).wr = false

theorem RoRel.empty (w : World) : RoRel (fun _ => none) AH.empty w :=
  ⟨⟨fun _ _ => rfl, (fun _ _ h => by cases h), (fun _ _ h => by cases h), (fun _ _ _ _ h => by cases h)⟩, fun _ => rfl⟩

theorem RoRel.push {ι : Inj} {h : AH} {w : World} (hr : RoRel ι h w) (c : List Value) (es : Nat) (ex : Bool) (I : Img) (hI : BRel ι I (.cells c es false ex) w.heap[I.B]?) (hin : I.B < w.heap.size) :
    ∃ ι', ι.le ι' ∧ ι' h.n = some I ∧ RoRel ι' (h.push (.cells c es false ex)) w := by
  let ι' : Inj := fun b => if b = h.n then some I else ι b
  have hn : ι h.n = none := hr.rel.fit _ (Nat.le_refl _)
  have hle : ι.le ι' := fun b J hb => by
    have : b ≠ h.n := fun e => by rw [e, hn] at hb; cases hb
    simp [ι', this, hb]
  have hro : ∀ b, ((h.push (.cells c es false ex)).b b).wr = false := fun b => by
    simp only [AH.push]
    split
    · rfl
    · exact hr.ro b
  refine ⟨ι', hle, by simp [ι'], ⟨⟨fun b hb => ?_, fun b J hb => ?_, fun b J hb => ?_, fun b₁ b₂ I₁ I₂ _ _ _ hw _ => by rw [hro] at hw; cases hw⟩, hro⟩⟩
  · have : b ≠ h.n := by simp only [AH.push] at hb; omega
    simp only [ι', this, if_false]
    exact hr.rel.fit b (by simp only [AH.push] at hb; omega)
  · by_cases e : b = h.n
    · subst e
      have : J = I := by simpa [ι'] using hb.symm
      subst this
      simp only [AH.push, if_true]
      exact hI.mono hle
    · have hb' : ι b = some J := by simpa [ι', e] using hb
      simp only [AH.push, e, if_false]
      exact (hr.rel.blk b J hb').mono hle
  · by_cases e : b = h.n
    · subst e
      have : J = I := by simpa [ι'] using hb.symm
      subst this; exact hin
    · exact hr.rel.inb b J (by simpa [ι', e] using hb)

/-- a row that isn't there: what a slice without room points to -/
theorem RoRel.ghost {ι : Inj} {h : AH} {w : World} (hr : RoRel ι h w) (c : List Value) (es : Nat) (ex : Bool) : RoRel ι (h.push (.cells c es false ex)) w := by
  have hro : ∀ b, ((h.push (.cells c es false ex)).b b).wr = false := fun b => by
    simp only [AH.push]
    split
    · rfl
    · exact hr.ro b
  have hne : ∀ {b : Nat} {J : Img}, ι b = some J → b ≠ h.n := fun {b J} hb e => by
    have := hr.rel.fit b (by omega)
    rw [this] at hb; cases hb
  refine ⟨⟨fun b hb => hr.rel.fit b (by simp only [AH.push] at hb; omega), fun b J hb => ?_, hr.rel.inb, fun b₁ b₂ I₁ I₂ _ _ _ hw _ => by rw [hro] at hw; cases hw⟩, hro⟩
  simp only [AH.push, hne hb, if_false]
  exact hr.rel.blk b J hb

/-- what one reading gives -/
def Got (P : Program) (W : World) (ι : Inj) (h : AH) (t : TypeId) (cs : List Value) : Prop :=
  ∃ ι' h' cs', ι.le ι' ∧ h.n ≤ h'.n ∧ (∀ b, b < h.n → h'.b b = h.b b) ∧ RoRel ι' h' W ∧ LRel ι' cs' cs ∧ Rd P h' t cs'

theorem cells?_get {w : World} {base : Nat} {a : Addr} {n : Nat} {cs : List Value} (h : w.cells? base a n = some cs) : cs.length = n ∧ ∀ (i : Nat) v, cs[i]? = some v → w.cell? (a.add i) = some v := by
  unfold World.cells? at h
  split at h
  · have key : ∀ (l : List Nat) (cs : List Value), (l.mapM fun i => w.cell? (a.add i)) = some cs → cs.length = l.length ∧ ∀ (i : Nat) v, cs[i]? = some v → ∃ j, l[i]? = some j ∧ w.cell? (a.add j) = some v := by
      intro l
      induction l with
      | nil => intro cs h; simp at h; subst h; exact ⟨rfl, fun i v hv => by simp at hv⟩
      | cons x l ih =>
        intro cs h
        rw [List.mapM_cons] at h
        cases hx : w.cell? (a.add x) with
        | none => simp [hx] at h
        | some y =>
          cases hl : l.mapM fun i => w.cell? (a.add i) with
          | none => simp [hx, hl] at h
          | some ys =>
            simp [hx, hl] at h
            subst h
            obtain ⟨h1, h2⟩ := ih ys hl
            refine ⟨by simp [h1], fun i v hv => ?_⟩
            cases i with
            | zero => simp at hv; subst hv; exact ⟨x, rfl, hx⟩
            | succ i => simp at hv; obtain ⟨j, hj, hc⟩ := h2 i v hv; exact ⟨j, by simpa using hj, hc⟩
    obtain ⟨h1, h2⟩ := key _ _ h
    refine ⟨by simpa using h1, fun i v hv => ?_⟩
    obtain ⟨j, hj, hc⟩ := h2 i v hv
    have : j = i := by
      rw [List.getElem?_range] at hj
      · exact (Option.some.inj hj).symm
      · have := (List.getElem?_eq_some_iff.1 hv).1; rw [h1] at this; simpa using this
    rw [← this]; exact hc
  · cases h

/-- many readings, one behind the other -/
theorem gots {P : Program} {W : World} : ∀ (items : List (TypeId × List Value)), (∀ it ∈ items, ∀ ι h, RoRel ι h W → Got P W ι h it.1 it.2) → ∀ ι h, RoRel ι h W →
    ∃ (ι' : Inj) (h' : AH) (ps : List (List Value)), ι.le ι' ∧ h.n ≤ h'.n ∧ (∀ b, b < h.n → h'.b b = h.b b) ∧ RoRel ι' h' W ∧ ps.length = items.length ∧ LRel ι' ps.flatten (items.map (·.2)).flatten ∧
      ∀ (i : Nat) (it : TypeId × List Value) (p : List Value), items[i]? = some it → ps[i]? = some p → p.length = it.2.length ∧ Rd P h' it.1 p
  | [], _, ι, h, hr => ⟨ι, h, [], Inj.le_refl ι, Nat.le_refl _, fun _ _ => rfl, hr, rfl, LRel.nil ι, fun i it p h1 => by simp at h1⟩
  | it :: items, hg, ι, h, hr => by
    obtain ⟨ι₁, h₁, p, l1, n1, s1, r1, c1, d1⟩ := hg it (by simp) ι h hr
    obtain ⟨ι₂, h₂, ps, l2, n2, s2, r2, e2, c2, d2⟩ := gots items (fun it' h' => hg it' (by simp [h'])) ι₁ h₁ r1
    refine ⟨ι₂, h₂, p :: ps, Inj.le_trans l1 l2, Nat.le_trans n1 n2, fun b hb => (s2 b (Nat.lt_of_lt_of_le hb n1)).trans (s1 b hb), r2, by simp [e2], ?_, fun i it' p' h1 h2 => ?_⟩
    · simp only [List.flatten_cons, List.map_cons]
      exact (c1.mono l2).append c2
    · cases i with
      | zero =>
        simp at h1 h2
        subst h1 h2
        exact ⟨c1.1, d1.mono n2 s2⟩
      | succ i => exact d2 i it' p' (by simpa using h1) (by simpa using h2)

theorem tiled_flatten {P : Program} {cs : List Value} : ∀ (fs : List Field) (o oe : Nat), tiled P o fs = some oe → oe ≤ cs.length →
    o ≤ oe ∧ (fs.map fun f => (cs.drop f.offset).take (P.cellsOf f.type)).flatten = (cs.drop o).take (oe - o)
  | [], o, oe, h, _ => by simp only [tiled, Option.some.injEq] at h; subst h; exact ⟨Nat.le_refl _, by simp⟩
  | f :: fs, o, oe, h, hl => by
    simp only [tiled] at h
    split at h
    · rename_i ho
      obtain ⟨h1, h2⟩ := tiled_flatten fs _ oe h hl
      refine ⟨by omega, ?_⟩
      simp only [List.map_cons, List.flatten_cons, h2, ho]
      have e : oe - o = P.cellsOf f.type + (oe - (o + P.cellsOf f.type)) := by omega
      rw [e, List.take_add, List.drop_drop]
    · cases h

theorem flat_cells_at {w : World} {B o s : Nat} : ∀ (l : List (List Value)) (start : Nat), (∀ (i : Nat) p, l[i]? = some p → p.length = s ∧ ∀ (j : Nat) v, p[j]? = some v → w.cell? ⟨B, o + (start + i) * s + j, none⟩ = some v) →
    ∀ (k : Nat) v, l.flatten[k]? = some v → w.cell? ⟨B, o + start * s + k, none⟩ = some v
  | [], _, _, k, v, h => by simp at h
  | p :: l, start, hp, k, v, h => by
    obtain ⟨h1, h2⟩ := hp 0 p rfl
    simp only [List.flatten_cons] at h
    rw [List.getElem?_append] at h
    split at h
    · have := h2 k v h
      simpa using this
    · rename_i hk
      have := flat_cells_at l (start + 1) (fun i q hq => by
        have := hp (i + 1) q (by simpa using hq)
        have e : start + 1 + i = start + (i + 1) := by omega
        rw [e]; exact this) (k - p.length) v h
      rw [Nat.add_mul] at this
      have e : o + (start * s + 1 * s) + (k - p.length) = o + start * s + k := by omega
      rw [e] at this
      exact this

theorem flatten_length {n : Nat} : ∀ {ps : List (List Value)}, (∀ (i : Nat) p, ps[i]? = some p → p.length = n) → ps.flatten.length = ps.length * n
  | [], _ => by simp
  | p :: ps, h => by
    have h0 := h 0 p rfl
    have := flatten_length (ps := ps) (n := n) fun i q hq => h (i + 1) q (by simpa using hq)
    simp only [List.flatten_cons, List.length_append, List.length_cons, this, h0, Nat.add_mul, Nat.one_mul]
    omega

theorem trod_got {H : Type} {enc : TypeId × Value → H} {P : Program} {W : World} : ∀ (n fuel : Nat) (t : TypeId) (cs : List Value) (x : DataW H × List MemPlace),
    DataW.trod enc P W 0 (fun _ => true) true fuel t cs = some x → okT P n t = true → cs.length = P.cellsOf t ∧ ∀ ι h, RoRel ι h W → Got P W ι h t cs := by
  intro n
  induction n with
  | zero => intro fuel t cs x _ h; cases h
  | succ n ih =>
    intro fuel t cs x hx hok
    have refl : ∀ {v : Value}, scal v = true → (∀ h, Rd P h t [v]) → ∀ ι h, RoRel ι h W → Got P W ι h t [v] := fun hs hrd ι h hr =>
      ⟨ι, h, [_], Inj.le_refl ι, Nat.le_refl _, fun _ _ => rfl, hr, (LRel.nil ι).cons (scal_refl hs), hrd h⟩
    cases hu : P.underlying t with
    | none => simp [okT, hu] at hok
    | some d =>
      cases d <;> simp only [okT, hu, Bool.false_eq_true] at hok
      case bool =>
        obtain ⟨b, rfl, _⟩ := DataW.trod_bool hu hx
        exact ⟨by have : P.cellsOf t = 1 := (by simpa using hok); simp [this], refl rfl fun h => .bool b hu⟩
      case int k =>
        obtain ⟨m, rfl, _, hw⟩ := DataW.trod_int hu hx
        exact ⟨by have : P.cellsOf t = 1 := (by simpa using hok); simp [this], refl rfl fun h => .int hu hw⟩
      case string =>
        obtain ⟨s, rfl, _, hs⟩ := DataW.trod_string hu hx
        exact ⟨by have : P.cellsOf t = 1 := (by simpa using hok); simp [this], refl rfl fun h => .str s hu hs⟩
      case slice e =>
        simp only [Bool.and_eq_true, beq_iff_eq, decide_eq_true_eq] at hok
        obtain ⟨⟨hok1, hok2⟩, hok3⟩ := hok
        have ghost : ∀ {p : Option Addr} ι h, RoRel ι h W → Got P W ι h t [.slice p 0 0] := fun ι h hr =>
          ⟨ι, h.push (.cells [] (P.cellsOf e) false true), [.slice (some ⟨h.n, 0, none⟩) 0 0], Inj.le_refl ι, by simp [AH.push], fun b hb => by simp [AH.push, Nat.ne_of_lt hb], hr.ghost _ _ true,
            (LRel.nil ι).cons .xslice, .slice (elems := []) hu (by simp [AH.push]) (by simp [AH.push]) rfl (Nat.zero_le _) (Nat.zero_le _) (fun i p h => by simp at h) (fun i p h => by simp at h)⟩
        rcases DataW.trod_slice hu hx with ⟨rfl, _⟩ | ⟨a, len, cap, elems, rest, m, rfl, rfl, _, _, hl, hm, hel, hE1, hE2, _⟩
        · exact ⟨by simpa using hok1.symm, ghost⟩
        · refine ⟨by simpa using hok1.symm, fun ι h hr => ?_⟩
          obtain ⟨hrl, hE2⟩ := hE2 rfl
          by_cases hc0 : cap = 0
          · subst hc0
            have : len = 0 := by omega
            subst this
            exact ghost ι h hr
          · -- each element's cells
            have each : ∀ i, i < cap → ∃ ecs y, W.cells? 0 (a.add (i * P.cellsOf e)) (P.cellsOf e) = some ecs ∧ DataW.trod enc P W 0 (fun _ => true) true m e ecs = some y := by
              intro i hi
              have : ∃ y, (W.cells? 0 (a.add (i * P.cellsOf e)) (P.cellsOf e)).bind (DataW.trod enc P W 0 (fun _ => true) true m e) = some y := by
                rcases Nat.lt_or_ge i len with h1 | h1
                · rw [hE1 i h1]; exact ⟨elems[i]'(by omega), by simp⟩
                · have := hE2 (i - len) (by omega)
                  have e' : len + (i - len) = i := by omega
                  rw [e'] at this
                  rw [this]; exact ⟨rest[i - len]'(by omega), by simp⟩
              obtain ⟨y, hy⟩ := this
              obtain ⟨ecs, h1, h2⟩ := Option.bind_eq_some_iff.1 hy
              exact ⟨ecs, y, h1, h2⟩
            let ecs : Nat → List Value := fun i => (W.cells? 0 (a.add (i * P.cellsOf e)) (P.cellsOf e)).getD []
            have hecs : ∀ i, i < cap → W.cells? 0 (a.add (i * P.cellsOf e)) (P.cellsOf e) = some (ecs i) ∧ ∃ y, DataW.trod enc P W 0 (fun _ => true) true m e (ecs i) = some y := fun i hi => by
              obtain ⟨l, y, h1, h2⟩ := each i hi
              have : ecs i = l := by simp [ecs, h1]
              rw [this]; exact ⟨h1, y, h2⟩
            -- the address is a plain one
            obtain ⟨B, o, rfl⟩ : ∃ B o, a = ⟨B, o, none⟩ := by
              have h0 := (cells?_get (hecs 0 (by omega)).1)
              have hlt : 0 < (ecs 0).length := by rw [h0.1]; exact hok2
              have hc := h0.2 0 (ecs 0)[0] (by simp [hlt])
              have e0 : (a.add (0 * P.cellsOf e)).add 0 = a := by simp [Addr.add]
              rw [e0] at hc
              obtain ⟨B, o, sp⟩ := a
              cases sp with
              | none => exact ⟨B, o, rfl⟩
              | some s =>
                unfold World.cell? at hc
                split at hc <;> simp at hc
            let items : List (TypeId × List Value) := (List.range cap).map fun i => (e, ecs i)
            have hget : ∀ (i : Nat) (it : TypeId × List Value), items[i]? = some it → i < cap ∧ it = (e, ecs i) := fun i it hi => by
              simp only [items, List.getElem?_map, Option.map_eq_some_iff] at hi
              obtain ⟨j, hj, rfl⟩ := hi
              have hlt := (List.getElem?_eq_some_iff.1 hj).1
              simp only [List.length_range] at hlt
              rw [List.getElem?_range hlt] at hj
              obtain rfl := Option.some.inj hj
              exact ⟨hlt, rfl⟩
            obtain ⟨ι₁, h₁, ps, l1, n1, s1, r1, e1, c1, d1⟩ := gots (P := P) (W := W) items (fun it hit => by
              obtain ⟨i, hi⟩ := List.getElem?_of_mem hit
              obtain ⟨hlt, rfl⟩ := hget i it hi
              obtain ⟨_, y, hy⟩ := hecs i hlt
              exact (ih m e (ecs i) y hy hok3).2) ι h hr
            have hpl : ps.length = cap := by rw [e1]; simp [items]
            have hpz : ∀ (i : Nat) p, ps[i]? = some p → p.length = P.cellsOf e ∧ Rd P h₁ e p := fun i p hp => by
              have hlt : i < cap := by have := (List.getElem?_eq_some_iff.1 hp).1; omega
              have hit : items[i]? = some (e, ecs i) := by simp [items, hlt]
              obtain ⟨q1, q2⟩ := d1 i _ p hit hp
              exact ⟨by rw [q1]; exact (cells?_get (hecs i hlt).1).1, q2⟩
            have hflat : ∀ (k : Nat) v, (items.map (·.2)).flatten[k]? = some v → W.cell? ⟨B, o + k, none⟩ = some v := fun k v hv => by
              have := flat_cells_at (w := W) (B := B) (o := o) (s := P.cellsOf e) (items.map (·.2)) 0 (fun i p hp => by
                simp only [List.getElem?_map, Option.map_eq_some_iff] at hp
                obtain ⟨it, hit, rfl⟩ := hp
                obtain ⟨hlt, rfl⟩ := hget i it hit
                obtain ⟨q1, q2⟩ := cells?_get (hecs i hlt).1
                refine ⟨q1, fun j v hj => ?_⟩
                have := q2 j v hj
                rw [add_none, add_none] at this
                simpa using this) k v hv
              simpa using this
            have hfl : ps.flatten.length = cap * P.cellsOf e := by rw [flatten_length fun i p hp => (hpz i p hp).1, hpl]
            have hpos : 0 < cap * P.cellsOf e := Nat.mul_pos (by omega) hok2
            -- the block
            have hblk : ∃ c' elem fr, W.heap[B]? = some (.cells c' elem fr) ∧ o + cap * P.cellsOf e ≤ c'.size ∧ ∀ (k : Nat) v, ps.flatten[k]? = some v → ∃ v', c'[o + k]? = some v' ∧ VRel ι₁ v v' := by
              have cell : ∀ k, k < cap * P.cellsOf e → ∃ v, (items.map (·.2)).flatten[k]? = some v ∧ W.cell? ⟨B, o + k, none⟩ = some v := fun k hk => by
                have hlt : k < (items.map (·.2)).flatten.length := by rw [← c1.1, hfl]; exact hk
                exact ⟨_, List.getElem?_eq_getElem hlt, hflat k _ (List.getElem?_eq_getElem hlt)⟩
              obtain ⟨v0, _, hv0⟩ := cell 0 hpos
              unfold World.cell? at hv0
              split at hv0
              · rename_i c' elem fr hb
                refine ⟨c', elem, fr, hb, ?_, fun k v hv => ?_⟩
                · obtain ⟨v1, _, hv1⟩ := cell (cap * P.cellsOf e - 1) (by omega)
                  simp only [World.cell?, hb] at hv1
                  simp only [Option.isSome_none, Bool.false_eq_true, if_false] at hv1
                  have := (Array.getElem?_eq_some_iff.1 hv1).1
                  omega
                · obtain ⟨v', hv', hrel⟩ := c1.get hv
                  have := hflat k v' hv'
                  simp only [World.cell?, hb] at this
                  exact ⟨v', by simpa using this, hrel⟩
              · cases hv0
            obtain ⟨c', elem, fr, hb1, hb2, hb3⟩ := hblk
            have hin : B < W.heap.size := (Array.getElem?_eq_some_iff.1 hb1).1
            obtain ⟨ι₂, l2, hι2, r2⟩ := r1.push ps.flatten (P.cellsOf e) true ⟨B, o, c'.size, P.cellsOf e, true⟩ ⟨rfl, rfl, c', elem, fr, hb1, rfl, by rw [hfl]; exact hb2, (fun h => by cases h), hb3⟩ hin
            refine ⟨ι₂, h₁.push (.cells ps.flatten (P.cellsOf e) false true), [.slice (some ⟨h₁.n, 0, none⟩) len cap], Inj.le_trans l1 l2, Nat.le_trans n1 (by simp [AH.push]), fun b hb => ?_, r2, ?_, ?_⟩
            · have : b ≠ h₁.n := by omega
              simp only [AH.push, this, if_false]
              exact s1 b hb
            · refine (LRel.nil ι₂).cons ?_
              have := VRel.slice (ι := ι₂) (o := 0) (n := len) (c := cap) (c' := cap) hι2 hl (Nat.le_refl _) (fun _ => rfl) (by simpa using hb2)
              simpa using this
            · refine .slice hu (by simp [AH.push]) (by simp [AH.push]) hpl hl hm (fun i p hp => (hpz i p hp).1) (fun i p hp => ?_)
              refine (hpz i p hp).2.mono (by simp [AH.push]) fun b hb => ?_
              simp [AH.push, Nat.ne_of_lt hb]
      case struct fs =>
        simp only [Bool.and_eq_true, beq_iff_eq, List.all_eq_true] at hok
        obtain ⟨htile, hok2⟩ := hok
        obtain ⟨xs, m, rfl, _, hlen, hxl, hx2⟩ := DataW.trod_struct hu hx
        refine ⟨hlen, fun ι h hr => ?_⟩
        let items : List (TypeId × List Value) := fs.toList.map fun f => (f.type, (cs.drop f.offset).take (P.cellsOf f.type))
        have hget : ∀ (i : Nat) (it : TypeId × List Value), items[i]? = some it → ∃ f, fs.toList[i]? = some f ∧ it = (f.type, (cs.drop f.offset).take (P.cellsOf f.type)) := fun i it hi => by
          simp only [items, List.getElem?_map, Option.map_eq_some_iff] at hi
          obtain ⟨f, hf, rfl⟩ := hi
          exact ⟨f, hf, rfl⟩
        have read : ∀ (i : Nat) (f : Field), fs.toList[i]? = some f → ∃ y, DataW.trod enc P W 0 (fun _ => true) true m f.type ((cs.drop f.offset).take (P.cellsOf f.type)) = some y := fun i f hf => by
          have hlt := (List.getElem?_eq_some_iff.1 hf).1
          rw [hx2 i f (by simpa using hf)]
          exact ⟨xs[i]'(by simp at hlt; omega), by simp⟩
        obtain ⟨ι₁, h₁, ps, l1, n1, s1, r1, e1, c1, d1⟩ := gots (P := P) (W := W) items (fun it hit => by
          obtain ⟨i, hi⟩ := List.getElem?_of_mem hit
          obtain ⟨f, hf, rfl⟩ := hget i it hi
          obtain ⟨y, hy⟩ := read i f hf
          exact (ih m f.type _ y hy (hok2 f (List.mem_of_getElem? hf))).2) ι h hr
        have hflat : (items.map (·.2)).flatten = cs := by
          have := (tiled_flatten (cs := cs) fs.toList 0 _ htile (by omega)).2
          simp only [items, List.map_map]
          have e : (fun f : Field => (cs.drop f.offset).take (P.cellsOf f.type)) = (fun x : TypeId × List Value => x.2) ∘ fun f => (f.type, (cs.drop f.offset).take (P.cellsOf f.type)) := rfl
          rw [← e, this]
          simp [← hlen]
        refine ⟨ι₁, h₁, ps.flatten, l1, n1, s1, r1, by rw [← hflat]; exact c1, .struct hu (by rw [e1]; simp [items]) (fun i f p hf hp => ?_) (fun i f p hf hp => ?_)⟩
        · have hit : items[i]? = some (f.type, (cs.drop f.offset).take (P.cellsOf f.type)) := by simp only [items, List.getElem?_map, hf, Option.map_some]
          rw [(d1 i _ p hit hp).1]
          obtain ⟨y, hy⟩ := read i f hf
          exact (ih m f.type _ y hy (hok2 f (List.mem_of_getElem? hf))).1
        · have hit : items[i]? = some (f.type, (cs.drop f.offset).take (P.cellsOf f.type)) := by simp only [items, List.getElem?_map, hf, Option.map_some]
          exact (d1 i _ p hit hp).2

end Go.AM
