/-
  AM, part 2: the relation between the abstract machine's values and heap and the model's; what each heap operation does to it.
-/
import Derived.Test.YtelcedajmnblbaaAm1
import Derived.Laws.CopyRow
set_option linter.unusedVariables false
set_option linter.unusedSimpArgs false
namespace Go.AM

/-- where an abstract block lies: block, shift, cells of the block, element size for slices, are capacities exact? -/
structure Img where
  B : Nat
  s : Nat
  sz : Nat
  es : Nat
  ex : Bool

abbrev Inj := Nat → Option Img

inductive VRel (ι : Inj) : Value → Value → Prop
  | bool (b : Bool) : VRel ι (.bool b) (.bool b)
  | int (k : IntKind) (n : Int) : VRel ι (.int k n) (.int k n)
  | float (k : FloatKind) (b : Nat) : VRel ι (.float k b) (.float k b)
  | complex (k : FloatKind) (x y : Nat) : VRel ι (.complex k x y) (.complex k x y)
  | string (s : ByteArray) : VRel ι (.string s) (.string s)
  | nilPtr : VRel ι (.pointer none) (.pointer none)
  | ptr {b o : Nat} {I : Img} (h : ι b = some I) : VRel ι (.pointer (some ⟨b, o, none⟩)) (.pointer (some ⟨I.B, I.s + o, none⟩))
  | nilSlice : VRel ι (.slice none 0 0) (.slice none 0 0)
  | slice {b o n c c' : Nat} {I : Img} (h : ι b = some I) (hn : n ≤ c) (hc : c ≤ c') (hx : I.ex = true → c' = c) (hb : I.s + o + c' * I.es ≤ I.sz) :
      VRel ι (.slice (some ⟨b, o, none⟩) n c) (.slice (some ⟨I.B, I.s + o, none⟩) n c')
  | zslice {b o o' c' : Nat} {I : Img} (h : ι b = some I) (hx : I.ex = false) (hb : o' + c' * I.es ≤ I.sz) :
      VRel ι (.slice (some ⟨b, o, none⟩) 0 0) (.slice (some ⟨I.B, o', none⟩) 0 c')
  | xslice {a : Addr} {p : Option Addr} : VRel ι (.slice (some a) 0 0) (.slice p 0 0)
  | nilMap : VRel ι (.map none) (.map none)
  | map {b : Nat} {I : Img} (h : ι b = some I) : VRel ι (.map (some b)) (.map (some I.B))
  | nilChan : VRel ι (.chan none) (.chan none)
  | nilFunc : VRel ι .nilFunc .nilFunc
  | nilIface : VRel ι .nilIface .nilIface
  | func (fn : Fn) {f f' c c' : Array Value} (hf : f.size = f'.size) (hf' : ∀ (i : Nat) x x', f[i]? = some x → f'[i]? = some x' → VRel ι x x')
      (hc : c.size = c'.size) (hc' : ∀ (i : Nat) x x', c[i]? = some x → c'[i]? = some x' → VRel ι x x') : VRel ι (.func fn f c) (.func fn f' c')
  | iface (t : TypeId) {v v' : Value} (h : VRel ι v v') : VRel ι (.iface t v) (.iface t v')
  | agg {c c' : Array Value} (hs : c.size = c'.size) (h : ∀ (i : Nat) x x', c[i]? = some x → c'[i]? = some x' → VRel ι x x') : VRel ι (.agg c) (.agg c')
  | tuple {c c' : Array Value} (hs : c.size = c'.size) (h : ∀ (i : Nat) x x', c[i]? = some x → c'[i]? = some x' → VRel ι x x') : VRel ι (.tuple c) (.tuple c')

def LRel (ι : Inj) (l l' : List Value) : Prop := l.length = l'.length ∧ ∀ (i : Nat) x x', l[i]? = some x → l'[i]? = some x' → VRel ι x x'

def Inj.le (ι ι' : Inj) : Prop := ∀ b I, ι b = some I → ι' b = some I
theorem Inj.le_refl (ι : Inj) : ι.le ι := fun _ _ h => h
theorem Inj.le_trans {a b c : Inj} (h : a.le b) (h' : b.le c) : a.le c := fun x I hx => h' x I (h x I hx)

theorem VRel.mono {ι ι' : Inj} (hle : ι.le ι') {v v' : Value} (h : VRel ι v v') : VRel ι' v v' := by
  induction h with
  | bool b => exact .bool b
  | int k n => exact .int k n
  | float k b => exact .float k b
  | complex k x y => exact .complex k x y
  | string s => exact .string s
  | nilPtr => exact .nilPtr
  | ptr h => exact .ptr (hle _ _ h)
  | nilSlice => exact .nilSlice
  | slice h hn hc hx hb => exact .slice (hle _ _ h) hn hc hx hb
  | zslice h hx hb => exact .zslice (hle _ _ h) hx hb
  | xslice => exact .xslice
  | nilMap => exact .nilMap
  | map h => exact .map (hle _ _ h)
  | nilChan => exact .nilChan
  | nilFunc => exact .nilFunc
  | nilIface => exact .nilIface
  | func fn hf _ hc _ ih1 ih2 => exact .func fn hf (fun i x x' a b => ih1 i x x' a b) hc (fun i x x' a b => ih2 i x x' a b)
  | iface t _ ih => exact .iface t ih
  | agg hs _ ih => exact .agg hs (fun i x x' a b => ih i x x' a b)
  | tuple hs _ ih => exact .tuple hs (fun i x x' a b => ih i x x' a b)

theorem LRel.mono {ι ι' : Inj} (hle : ι.le ι') {l l' : List Value} (h : LRel ι l l') : LRel ι' l l' :=
  ⟨h.1, fun i x x' a b => (h.2 i x x' a b).mono hle⟩

theorem LRel.nil (ι : Inj) : LRel ι [] [] := ⟨rfl, fun i x x' a => by simp at a⟩
theorem LRel.cons {ι : Inj} {x x' : Value} {l l' : List Value} (h : VRel ι x x') (hl : LRel ι l l') : LRel ι (x :: l) (x' :: l') := by
  refine ⟨by simp [hl.1], fun i y y' a b => ?_⟩
  cases i with
  | zero => simp at a b; subst a b; exact h
  | succ i => simp at a b; exact hl.2 i y y' a b
theorem LRel.tail {ι : Inj} {x x' : Value} {l l' : List Value} (h : LRel ι (x :: l) (x' :: l')) : VRel ι x x' ∧ LRel ι l l' :=
  ⟨h.2 0 x x' rfl rfl, by simpa using h.1, fun i y y' a b => h.2 (i + 1) y y' (by simpa using a) (by simpa using b)⟩
theorem LRel.append {ι : Inj} {a a' b b' : List Value} (h : LRel ι a a') (h' : LRel ι b b') : LRel ι (a ++ b) (a' ++ b') := by
  refine ⟨by simp [h.1, h'.1], fun i x x' p q => ?_⟩
  rw [List.getElem?_append] at p q
  rw [← h.1] at q
  split at p
  · rename_i hlt; rw [if_pos hlt] at q; exact h.2 i x x' p q
  · rename_i hlt; rw [if_neg hlt] at q; exact h'.2 _ x x' p q
theorem LRel.drop {ι : Inj} {a a' : List Value} (h : LRel ι a a') (n : Nat) : LRel ι (a.drop n) (a'.drop n) :=
  ⟨by simp [h.1], fun i x x' p q => h.2 (n + i) x x' (by simpa using p) (by simpa using q)⟩
theorem LRel.take {ι : Inj} {a a' : List Value} (h : LRel ι a a') (n : Nat) : LRel ι (a.take n) (a'.take n) := by
  refine ⟨by simp [h.1], fun i x x' p q => ?_⟩
  rw [List.getElem?_take] at p q
  split at p
  · rename_i hi; rw [if_pos hi] at q; exact h.2 i x x' p q
  · cases p
theorem LRel.get {ι : Inj} {a a' : List Value} (h : LRel ι a a') {i : Nat} {x : Value} (hx : a[i]? = some x) : ∃ x', a'[i]? = some x' ∧ VRel ι x x' := by
  have hi : i < a'.length := by rw [← h.1]; exact (List.getElem?_eq_some_iff.1 hx).1
  exact ⟨a'[i], by simp [hi], h.2 i x _ hx (by simp [hi])⟩
theorem LRel.get' {ι : Inj} {a a' : List Value} (h : LRel ι a a') {i : Nat} {x' : Value} (hx : a'[i]? = some x') : ∃ x, a[i]? = some x ∧ VRel ι x x' := by
  have hi : i < a.length := by rw [h.1]; exact (List.getElem?_eq_some_iff.1 hx).1
  exact ⟨a[i], by simp [hi], h.2 i _ x' (by simp [hi]) hx⟩
theorem LRel.getD {ι : Inj} {a a' : List Value} (h : LRel ι a a') (i : Nat) : VRel ι ((a[i]?).getD undef) ((a'[i]?).getD undef) := by
  cases hx : a[i]? with
  | some x => obtain ⟨x', hx', r⟩ := h.get hx; simpa [hx'] using r
  | none =>
    have : a'.length ≤ i := by rw [← h.1]; simpa using hx
    rw [List.getElem?_eq_none this]
    exact .tuple rfl (fun i x x' a => by simp at a)

theorem VRel.cells {ι : Inj} {v v' : Value} (h : VRel ι v v') : LRel ι v.cells.toList v'.cells.toList := by
  have one : ∀ {x x' : Value}, VRel ι x x' → LRel ι [x] [x'] := fun h => (LRel.nil ι).cons h |> fun z => z
  cases h with
  | agg hs h => exact ⟨by simpa [Value.cells] using hs, fun i x x' a b => h i x x' (by simpa [Value.cells] using a) (by simpa [Value.cells] using b)⟩
  | bool b => exact one (.bool b)
  | int k n => exact one (.int k n)
  | float k b => exact one (.float k b)
  | complex k x y => exact one (.complex k x y)
  | string s => exact one (.string s)
  | nilPtr => exact one .nilPtr
  | ptr h => exact one (.ptr h)
  | nilSlice => exact one .nilSlice
  | slice h hn hc hx hb => exact one (.slice h hn hc hx hb)
  | zslice h hx hb => exact one (.zslice h hx hb)
  | xslice => exact one .xslice
  | nilMap => exact one .nilMap
  | map h => exact one (.map h)
  | nilChan => exact one .nilChan
  | nilFunc => exact one .nilFunc
  | nilIface => exact one .nilIface
  | func fn hf hf' hc hc' => exact one (.func fn hf hf' hc hc')
  | iface t h => exact one (.iface t h)
  | tuple hs h => exact one (.tuple hs h)

theorem VRel.oneCell {ι : Inj} {v v' : Value} (h : VRel ι v v') : v'.oneCell' = v.oneCell' := by cases h <;> rfl

theorem scal_eq {ι : Inj} {v v' : Value} (hs : scal v = true) (h : VRel ι v v') : v' = v := by
  cases h <;> simp_all [scal]
theorem scal_refl {ι : Inj} {v : Value} (hs : scal v = true) : VRel ι v v := by
  cases v with
  | bool b => exact .bool b
  | int k n => exact .int k n
  | float k b => exact .float k b
  | complex k x y => exact .complex k x y
  | string s => exact .string s
  | pointer a => cases a with
    | none => exact .nilPtr
    | some a => simp [scal] at hs
  | slice a n c =>
    cases a with
    | none => cases n <;> cases c <;> first | exact .nilSlice | simp [scal] at hs
    | some a => simp [scal] at hs
  | map r => cases r with
    | none => exact .nilMap
    | some r => simp [scal] at hs
  | chan r => cases r with
    | none => exact .nilChan
    | some r => simp [scal] at hs
  | nilFunc => exact .nilFunc
  | nilIface => exact .nilIface
  | func _ _ _ => simp [scal] at hs
  | iface _ _ => simp [scal] at hs
  | agg _ => simp [scal] at hs
  | tuple _ => simp [scal] at hs

theorem flat_eq {ι : Inj} {v v' : Value} (hs : flat v = true) (h : VRel ι v v') : v' = v := by
  cases h with
  | agg hz h =>
    rename_i c c'
    simp only [flat, List.all_eq_true] at hs
    congr 1
    apply Array.ext hz.symm
    intro i h1 h2
    exact scal_eq (hs _ (by simp)) (h i c[i] c'[i] (by simp [h2]) (by simp [h1]))
  | _ => first | rfl | (simp [flat, scal] at hs)

theorem arr_refl {ι : Inj} {p : Value → Bool} (hp : ∀ v, p v = true → VRel ι v v) {c : Array Value} (hs : c.toList.all p = true) :
    ∀ (i : Nat) x x', c[i]? = some x → c[i]? = some x' → VRel ι x x' := by
  intro i x x' a b
  rw [a] at b
  obtain rfl := Option.some.inj b
  exact hp _ (List.all_eq_true.1 hs _ (by simpa using Array.mem_of_getElem? a))

theorem flat_refl {ι : Inj} {v : Value} (hs : flat v = true) : VRel ι v v := by
  cases v with
  | agg c => exact .agg rfl (arr_refl (fun v h => scal_refl h) hs)
  | _ => exact scal_refl (by simpa [flat] using hs)
theorem flat2_refl {ι : Inj} {v : Value} (hs : flat2 v = true) : VRel ι v v := by
  cases v with
  | tuple c => exact .tuple rfl (arr_refl (fun v h => flat_refl h) hs)
  | _ => exact flat_refl (by simpa [flat2] using hs)
theorem flat_cells {ι : Inj} {v : Value} (hs : flat v = true) : LRel ι v.cells.toList v.cells.toList := (flat_refl hs).cells
theorem undef_rel (ι : Inj) : VRel ι undef undef := .tuple rfl (fun i x x' a => by simp at a)

/-! ### Heaps -/
def ABlk.live : ABlk → Bool
  | .dead => false
  | _ => true
def ABlk.wr : ABlk → Bool
  | .dead => false
  | .cells _ _ w _ => w
  | .obj _ => true

/-- an object other than a row of cells -/
def ORel (ι : Inj) : Obj → Obj → Prop
  | .map es c, .map es' c' => es = es' ∧ c = c' ∧ ∀ e ∈ es.toList, flat e.key = true ∧ flat e.val = true
  | .mapIter m s seen st, .mapIter m' s' seen' st' => s = s' ∧ seen = seen' ∧ st = st' ∧
      match m, m' with
      | none, none => True
      | some b, some B => ∃ I, ι b = some I ∧ I.B = B
      | _, _ => False
  | .stringIter s p, .stringIter s' p' => s = s' ∧ p = p'
  | _, _ => False

def BRel (ι : Inj) (I : Img) : ABlk → Option Obj → Prop
  | .dead, _ => True
  | .cells c es wr ex, o => es = I.es ∧ ex = I.ex ∧ ∃ c' elem fr, o = some (.cells c' elem fr) ∧ c'.size = I.sz ∧ I.s + c.length ≤ I.sz ∧
      (wr = true → fr = (0, 0)) ∧ ∀ (i : Nat) v, c[i]? = some v → ∃ v', c'[I.s + i]? = some v' ∧ VRel ι v v'
  | .obj o, o' => ∃ x, o' = some x ∧ ORel ι o x

structure HRel (ι : Inj) (h : AH) (w : World) : Prop where
  fit : ∀ b, h.n ≤ b → ι b = none
  blk : ∀ b I, ι b = some I → BRel ι I (h.b b) w.heap[I.B]?
  inb : ∀ b I, ι b = some I → I.B < w.heap.size
  apart : ∀ b₁ b₂ I₁ I₂, ι b₁ = some I₁ → ι b₂ = some I₂ → b₁ ≠ b₂ → (h.b b₁).wr = true → (h.b b₂).live = true → I₁.B ≠ I₂.B

/-- may block b be written? -/
def AH.mut (h : AH) (b : Nat) : Bool := (h.b b).wr && decide (h.lim ≤ b)

structure Ext (ι : Inj) (h : AH) (w : World) (ι' : Inj) (h' : AH) (w' : World) : Prop where
  le : ι.le ι'
  n_le : h.n ≤ h'.n
  size : w.heap.size ≤ w'.heap.size
  lim : h'.lim = h.lim
  wr : ∀ b, b < h.n → (h'.b b).wr = true → (h.b b).wr = true
  live : ∀ b, b < h.n → (h'.b b).live = true → (h.b b).live = true
  new : ∀ b I, ι' b = some I → ι b = none → h.n ≤ b
  fresh : ∀ b I, ι' b = some I → ι b = none → (h'.b b).live = true → w.heap.size ≤ I.B ∨ ∃ b₀ I₀, ι b₀ = some I₀ ∧ h.mut b₀ = true ∧ I₀.B = I.B
  frame : ∀ B, B < w.heap.size → (∀ b I, ι b = some I → h.mut b = true → I.B ≠ B) → w'.heap[B]? = w.heap[B]?
  os : w'.os = w.os
  tape : w'.tape = w.tape
  output : w'.output = w.output

theorem wr_live {k : ABlk} (h : k.wr = true) : k.live = true := by cases k <;> simp_all [ABlk.wr, ABlk.live]
theorem mut_wr {h : AH} {b : Nat} (hm : h.mut b = true) : (h.b b).wr = true ∧ h.lim ≤ b := by simpa [AH.mut] using hm
theorem mut_of {h : AH} {b : Nat} (hw : (h.b b).wr = true) (hl : h.lim ≤ b) : h.mut b = true := by simp [AH.mut, hw, hl]

theorem Ext.refl (ι : Inj) (h : AH) (w : World) : Ext ι h w ι h w where
  le := Inj.le_refl ι
  n_le := Nat.le_refl _
  size := Nat.le_refl _
  lim := rfl
  wr := fun _ _ h => h
  live := fun _ _ h => h
  new := fun b I h h' => by rw [h] at h'; cases h'
  fresh := fun b I h h' => by rw [h] at h'; cases h'
  frame := fun _ _ _ => rfl
  os := rfl
  tape := rfl
  output := rfl

theorem HRel.lt {ι : Inj} {h : AH} {w : World} (hr : HRel ι h w) {b : Nat} {I : Img} (hb : ι b = some I) : b < h.n := by
  rcases Nat.lt_or_ge b h.n with hlt | hge
  · exact hlt
  · rw [hr.fit b hge] at hb; cases hb

theorem Ext.trans {ι₁ ι₂ ι₃ : Inj} {h₁ h₂ h₃ : AH} {w₁ w₂ w₃ : World} (hr : HRel ι₁ h₁ w₁) (hr₂ : HRel ι₂ h₂ w₂) (a : Ext ι₁ h₁ w₁ ι₂ h₂ w₂) (b : Ext ι₂ h₂ w₂ ι₃ h₃ w₃) : Ext ι₁ h₁ w₁ ι₃ h₃ w₃ := by
  have back : ∀ x I, ι₂ x = some I → h₂.mut x = true → w₁.heap.size ≤ I.B ∨ ∃ b₀ I₀, ι₁ b₀ = some I₀ ∧ h₁.mut b₀ = true ∧ I₀.B = I.B := by
    intro x I hx hm
    obtain ⟨hw, hl⟩ := mut_wr hm
    cases h1 : ι₁ x with
    | none => exact a.fresh x I hx h1 (wr_live hw)
    | some J =>
      have := a.le x J h1
      rw [hx] at this
      obtain rfl := Option.some.inj this
      exact .inr ⟨x, I, h1, mut_of (a.wr x (hr.lt h1) hw) (by rw [a.lim] at hl; exact hl), rfl⟩
  exact {
  le := Inj.le_trans a.le b.le
  n_le := Nat.le_trans a.n_le b.n_le
  size := Nat.le_trans a.size b.size
  lim := b.lim.trans a.lim
  wr := fun x hx h => a.wr x hx (b.wr x (Nat.lt_of_lt_of_le hx a.n_le) h)
  live := fun x hx h => a.live x hx (b.live x (Nat.lt_of_lt_of_le hx a.n_le) h)
  new := fun x I h h' => by
    cases h2 : ι₂ x with
    | none => exact Nat.le_trans a.n_le (b.new x I h h2)
    | some J => exact a.new x J h2 h'
  fresh := fun x I h h' hw => by
    cases h2 : ι₂ x with
    | none =>
      rcases b.fresh x I h h2 hw with hb | ⟨b₀, I₀, h0, hw0, e⟩
      · exact .inl (Nat.le_trans a.size hb)
      · rw [← e]; exact back b₀ I₀ h0 hw0
    | some J =>
      have hJ := b.le x J h2
      rw [h] at hJ
      obtain rfl := Option.some.inj hJ
      exact a.fresh x I h2 h' (b.live x (hr₂.lt h2) hw)
  frame := fun B hB hno => by
    rw [b.frame B (Nat.lt_of_lt_of_le hB a.size) (fun x I hx hw e => ?_), a.frame B hB hno]
    rcases back x I hx hw with q | ⟨b₀, I₀, h0, hw0, e0⟩
    · omega
    · exact hno b₀ I₀ h0 hw0 (e0.trans e)
  os := b.os.trans a.os
  tape := b.tape.trans a.tape
  output := b.output.trans a.output }

end Go.AM
