/-
  AM, part 13: regions that draw their order: whatever order comes up.
-/
import Derived.Test.YtelcedajmnblbaaAm12
set_option linter.unusedVariables false
set_option linter.unusedSimpArgs false
namespace Go.AM

def Inj.cut (ι : Inj) (n : Nat) : Inj := fun b => if b < n then ι b else none
theorem cut_some {ι : Inj} {n b : Nat} {I : Img} : ι.cut n b = some I ↔ b < n ∧ ι b = some I := by
  unfold Inj.cut
  by_cases h : b < n
  · simp [h]
  · simp [h]
theorem cut_le {ι : Inj} {n : Nat} : (ι.cut n).le ι := fun _ _ h => (cut_some.1 h).2
theorem cut_mono {ι ι' : Inj} {n n' : Nat} (h : ι.le ι') (hn : n ≤ n') : (ι.cut n).le (ι'.cut n') := fun b I hb => by
  obtain ⟨h1, h2⟩ := cut_some.1 hb
  exact cut_some.2 ⟨Nat.lt_of_lt_of_le h1 hn, h _ _ h2⟩

/-- the world has grown; nothing that was has turned -/
structure Grew (w w' : World) : Prop where
  size : w.heap.size ≤ w'.heap.size
  same : ∀ B, B < w.heap.size → w'.heap[B]? = w.heap[B]?
  os : w'.os = w.os
  tape : w'.tape = w.tape
  output : w'.output = w.output
theorem Grew.refl (w : World) : Grew w w := ⟨Nat.le_refl _, fun _ _ => rfl, rfl, rfl, rfl⟩

theorem HRel.grew {ι : Inj} {h : AH} {w w' : World} (hr : HRel ι h w) (g : Grew w w') : HRel ι h w' where
  fit := hr.fit
  blk := fun b I hb => by rw [g.same _ (hr.inb b I hb)]; exact hr.blk b I hb
  inb := fun b I hb => Nat.lt_of_lt_of_le (hr.inb b I hb) g.size
  apart := hr.apart
theorem Ext.grew {ι ι' : Inj} {h h' : AH} {w w₁ w' : World} (e : Ext ι h w ι' h' w₁) (g : Grew w₁ w') : Ext ι h w ι' h' w' where
  le := e.le
  n_le := e.n_le
  size := Nat.le_trans e.size g.size
  lim := e.lim
  wr := e.wr
  live := e.live
  new := e.new
  fresh := e.fresh
  frame := fun B hB hn => by rw [g.same B (Nat.lt_of_lt_of_le hB e.size)]; exact e.frame B hB hn
  os := g.os.trans e.os
  tape := g.tape.trans e.tape
  output := g.output.trans e.output

/-- another abstract heap that is the same where it counts -/
theorem HRel.swap {ι : Inj} {h h' : AH} {w : World} (hr : HRel ι h w) (hn : h.n ≤ h'.n) (hs : ∀ b, b < h.n → h'.b b = h.b b) : HRel ι h' w where
  fit := fun b hb => hr.fit b (Nat.le_trans hn hb)
  blk := fun b I hb => by rw [hs b (hr.lt hb)]; exact hr.blk b I hb
  inb := hr.inb
  apart := fun a c I J ha hc hne h1 h2 => by
    rw [hs a (hr.lt ha)] at h1
    rw [hs c (hr.lt hc)] at h2
    exact hr.apart a c I J ha hc hne h1 h2
theorem Ext.swap {ι ι' : Inj} {h h₁ h' : AH} {w w' : World} (e : Ext ι h w ι' h₁ w') (hr : HRel ι' h₁ w') (hn : h₁.n ≤ h'.n) (hl : h'.lim = h₁.lim) (hs : ∀ b, b < h₁.n → h'.b b = h₁.b b) :
    Ext ι h w ι' h' w' where
  le := e.le
  n_le := Nat.le_trans e.n_le hn
  size := e.size
  lim := hl.trans e.lim
  wr := fun b hb h1 => by rw [hs b (Nat.lt_of_lt_of_le hb e.n_le)] at h1; exact e.wr b hb h1
  live := fun b hb h1 => by rw [hs b (Nat.lt_of_lt_of_le hb e.n_le)] at h1; exact e.live b hb h1
  new := e.new
  fresh := fun b I hb hb' hl' => by rw [hs b (hr.lt hb)] at hl'; exact e.fresh b I hb hb' hl'
  frame := e.frame
  os := e.os
  tape := e.tape
  output := e.output

/-- what stands fixed for one region -/
structure DCtx (E : Env) (r : Rec) (N : Nat) (ops : Array Oper) (t : T) (h : AH) (tt : Nat → T) (hh : Nat → AH) (vv : Nat → Value) : Prop where
  facts : DrawFacts ops.toList
  t0 : tt 0 = t
  h0 : hh 0 = h
  step : ∀ j o, ops[j]? = some o → TStep E r N ops.toList tt hh vv j o

section
variable {E : Env} {r : Rec} {N : Nat} {ops : Array Oper} {t : T} {h : AH} {tt : Nat → T} {hh : Nat → AH} {vv : Nat → Value}

def bar (ops : Array Oper) (j : Nat) : Bool := barrier ops.toList (masks ops.toList []) j

theorem DCtx.kept (hE : E.Fine) (hk : Keeps r) (c : DCtx E r N ops t h tt hh vv) {j : Nat} (hj : j < ops.size) : Kept (hh j) (hh (j + 1)) := by
  have ho : ops[j]? = some ops[j] := by simp [hj]
  rcases (c.step j _ ho).run with ⟨_, _, h', hs, e⟩ | ⟨_, _, hs⟩ | ⟨_, _, e⟩
  · have := astep_safe hE hk ops[j] (tt j) (hh j).shut
    rw [hs] at this
    rw [e]; exact Kept.shut this
  · have := astep_safe hE hk ops[j] (tt j) (hh j)
    rw [hs] at this
    exact this
  · rw [e]; exact Kept.refl _

/-- an operation that is no barrier leaves what was -/
theorem DCtx.quiet (hE : E.Fine) (hk : Keeps r) (c : DCtx E r N ops t h tt hh vv) {j : Nat} {o : Oper} (ho : ops[j]? = some o) (hq : heapOp o = false ∨ bar ops j = false) :
    ∀ b, b < (hh j).n → (hh (j + 1)).b b = (hh j).b b := by
  intro b hb
  rcases (c.step j o ho).run with ⟨_, _, h', hs, e⟩ | ⟨_, hc, hs⟩ | ⟨_, _, e⟩
  · have := astep_safe hE hk o (tt j) (hh j).shut
    rw [hs] at this
    rw [e]
    exact this.old b hb hb
  · have hn : heapOp o = false := by
      rcases hq with h1 | h1
      · exact h1
      · unfold bar at h1; rw [h1] at hc; simpa using hc
    rw [(nonheap_indep hn hs).1]
  · rw [e]

theorem DCtx.nonheap (c : DCtx E r N ops t h tt hh vv) {j : Nat} {o : Oper} (ho : ops[j]? = some o) (hn : heapOp o = false) : hh (j + 1) = hh j := by
  rcases (c.step j o ho).run with ⟨_, hc, _⟩ | ⟨_, _, hs⟩ | ⟨_, _, e⟩
  · simp [hn] at hc
  · exact (nonheap_indep hn hs).1
  · exact e

theorem DCtx.n_mono (hE : E.Fine) (hk : Keeps r) (c : DCtx E r N ops t h tt hh vv) : ∀ {i j : Nat}, i ≤ j → j ≤ ops.size → (hh i).n ≤ (hh j).n := by
  intro i j hij hj
  induction j with
  | zero => have : i = 0 := by omega
            subst this; exact Nat.le_refl _
  | succ j ih =>
    by_cases e : i = j + 1
    · subst e; exact Nat.le_refl _
    · exact Nat.le_trans (ih (by omega) (by omega)) (c.kept hE hk (by omega)).n_le

theorem DCtx.lim (hE : E.Fine) (hk : Keeps r) (c : DCtx E r N ops t h tt hh vv) : ∀ {i j : Nat}, i ≤ j → j ≤ ops.size → (hh j).lim = (hh i).lim := by
  intro i j hij hj
  induction j with
  | zero => have : i = 0 := by omega
            subst this; rfl
  | succ j ih =>
    by_cases e : i = j + 1
    · subst e; rfl
    · rw [(c.kept hE hk (by omega)).lim]; exact ih (by omega) (by omega)

/-- between two barriers -/
theorem DCtx.phase (hE : E.Fine) (hk : Keeps r) (c : DCtx E r N ops t h tt hh vv) {lo hi : Nat} (hhi : hi ≤ ops.size) (mid : ∀ i o, ops[i]? = some o → heapOp o = true → lo ≤ i → i < hi → bar ops i = false) :
    ∀ {i j : Nat}, lo ≤ i → i ≤ j → j ≤ hi → ∀ b, b < (hh i).n → (hh j).b b = (hh i).b b := by
  intro i j hlo hij hj
  induction j with
  | zero => intro b _; have : i = 0 := by omega
            subst this; rfl
  | succ j ih =>
    intro b hb
    by_cases e : i = j + 1
    · subst e; rfl
    · have ho : ops[j]? = some (ops[j]'(by omega)) := by simp
      have hq : heapOp (ops[j]'(by omega)) = false ∨ bar ops j = false := by
        cases hh' : heapOp (ops[j]'(by omega)) with
        | false => exact .inl rfl
        | true => exact .inr (mid j _ ho hh' (by omega) (by omega))
      rw [c.quiet hE hk ho hq b (Nat.lt_of_lt_of_le hb (c.n_mono hE hk (by omega) (by omega)))]
      exact ih (by omega) (by omega) b hb

theorem next_bar (ops : Array Oper) : ∀ (k lo : Nat), lo + k = ops.size → ∃ hi, lo ≤ hi ∧ hi ≤ ops.size ∧ (∀ i o, ops[i]? = some o → heapOp o = true → lo ≤ i → i < hi → bar ops i = false) ∧
    (hi = ops.size ∨ ∃ o, ops[hi]? = some o ∧ heapOp o = true ∧ bar ops hi = true)
  | 0, lo, h => ⟨lo, Nat.le_refl _, by omega, fun i o _ _ h1 h2 => by omega, .inl (by omega)⟩
  | k + 1, lo, h => by
    have ho : ops[lo]? = some (ops[lo]'(by omega)) := by simp
    by_cases hb : heapOp (ops[lo]'(by omega)) = true ∧ bar ops lo = true
    · exact ⟨lo, Nat.le_refl _, by omega, fun i o _ _ h1 h2 => by omega, .inr ⟨_, ho, hb.1, hb.2⟩⟩
    · obtain ⟨hi, h1, h2, h3, h4⟩ := next_bar ops k (lo + 1) (by omega)
      refine ⟨hi, by omega, h2, fun i o hio hhe hlo hhi => ?_, h4⟩
      by_cases e : i = lo
      · subst e
        rw [ho] at hio
        obtain rfl := Option.some.inj hio
        cases hbb : bar ops i with
        | false => rfl
        | true => exact absurd ⟨hhe, hbb⟩ hb
      · exact h3 i o hio hhe (by omega) hhi

theorem put_other {t : T} {dst : Option Nat} {v : Value} {d : Nat} (h : dst ≠ some d ∨ N ≤ d) : (T.put N t dst v) d = t d := by
  cases dst with
  | none => rfl
  | some d' =>
    unfold T.put
    simp only
    by_cases h1 : d' < N
    · have h2 : d ≠ d' := fun e => by
        subst e
        rcases h with h' | h'
        · exact h' rfl
        · omega
      simp [h1, T.upd, h2]
    · simp [h1]

/-- what a temporary holds ahead of operation j, in the text's order -/
theorem DCtx.tt_val (c : DCtx E r N ops t h tt hh vv) {d : Nat} : ∀ (j : Nat), j ≤ ops.size →
    (∀ i o, ops[i]? = some o → i < j → o.dst = some d → d < N → tt j d = vv i) ∧ ((∀ i o, ops[i]? = some o → i < j → o.dst ≠ some d) ∨ N ≤ d → tt j d = t d)
  | 0, _ => ⟨fun i o _ h _ _ => by omega, fun _ => by rw [c.t0]⟩
  | j + 1, hj => by
    obtain ⟨ih1, ih2⟩ := c.tt_val (d := d) j (by omega)
    have ho : ops[j]? = some (ops[j]'(by omega)) := by simp
    have hp := (c.step j _ ho).put
    refine ⟨fun i o hio hi hd hN => ?_, fun hno => ?_⟩
    · by_cases e : i = j
      · subst e
        rw [ho] at hio
        obtain rfl := Option.some.inj hio
        rw [hp, hd]
        simp [T.put, hN, T.upd]
      · have hne : (ops[j]'(by omega)).dst ≠ some d := c.facts.uniq i j o _ d (by simpa using hio) (by simp) e hd
        rw [hp, put_other (.inl hne)]
        exact ih1 i o hio (by omega) hd hN
    · have hih : tt j d = t d := ih2 (hno.imp (fun h' i o hio hi => h' i o hio (by omega)) id)
      rw [hp, put_other (hno.imp (fun h' => h' j _ ho (by omega)) id)]
      exact hih

/-- what holds when the operations 'listed' have come up -/
structure DInv (N : Nat) (ops : Array Oper) (t : T) (h : AH) (hh : Nat → AH) (vv : Nat → Value) (ι₀ : Inj) (w₀ : World) (listed : Array Bool) (a : Act) (w : World) (ι : Inj) (lo hi : Nat) : Prop where
  sz : listed.size = ops.size
  closed : ∀ i o, ops[i]? = some o → listed.getD i false = true → ∀ e ∈ edges o, listed.getD e false = true
  size : a.tmps.size = N
  defers : a.defers = []
  val : ∀ i o d, ops[i]? = some o → listed.getD i false = true → o.dst = some d → d < N → VRel (ι.cut (hh (i + 1)).n) (vv i) (a.tmps.getD d undef)
  base : ∀ d, (∀ i o, ops[i]? = some o → o.dst = some d → listed.getD i false = false) → VRel ι₀ (t d) (a.tmps.getD d undef)
  le0 : ι₀.le ι
  gap : ∀ j, j < ops.size → listed.getD j false = false → ∀ b, (hh j).n ≤ b → b < (hh (j + 1)).n → ι b = none
  top : ∀ b, (hh ops.size).n ≤ b → ι b = none
  inb : ∀ b I, ι b = some I → I.B < w.heap.size
  lohi : lo ≤ hi ∧ hi ≤ ops.size
  low : ∀ i o, ops[i]? = some o → heapOp o = true → i < lo → listed.getD i false = true
  high : ∀ i o, ops[i]? = some o → heapOp o = true → hi ≤ i → listed.getD i false = false
  mid : ∀ i o, ops[i]? = some o → heapOp o = true → lo ≤ i → i < hi → bar ops i = false
  end_ : hi = ops.size ∨ ∃ o, ops[hi]? = some o ∧ heapOp o = true ∧ bar ops hi = true
  rel : ∀ k, lo ≤ k → k ≤ hi → HRel (ι.cut (hh k).n) (hh k) w ∧ Ext ι₀ h w₀ (ι.cut (hh k).n) (hh k) w

theorem ready_iff {j : Nat} {listed : Array Bool} : j ∈ Region.ready .any ops listed ↔ listed.getD j true = false ∧ ∃ o, ops[j]? = some o ∧ ∀ e ∈ edges o, listed.getD e false = true := by
  rw [mem_ready]
  constructor
  · rintro ⟨h1, o, ho, h2⟩
    exact ⟨h1, o, ho, fun x hx => by obtain ⟨e, he, hb, rfl⟩ := mem_edges.1 hx; exact h2 e he hb⟩
  · rintro ⟨h1, o, ho, h2⟩
    exact ⟨h1, o, ho, fun e he hb => h2 e.on (mem_edges.2 ⟨e, he, hb, rfl⟩)⟩

theorem getD_of_lt {listed : Array Bool} {j : Nat} (hj : j < listed.size) (d d' : Bool) : listed.getD j d = listed.getD j d' := by simp [hj]

/-- who must have come up has come up -/
theorem before_listed (hf : DrawFacts ops.toList) {listed : Array Bool} (hc : ∀ i o, ops[i]? = some o → listed.getD i false = true → ∀ e ∈ edges o, listed.getD e false = true)
    {i j : Nat} {o : Oper} (ho : ops[j]? = some o) (he : ∀ e ∈ edges o, listed.getD e false = true) (hb : isBefore (masks ops.toList []) i j = true) : listed.getD i false = true :=
  before_closed (S := fun i => listed.getD i false = true) hf.edge (fun i o hi hs e hee => hc i o (by simpa using hi) hs e hee) j o (by simpa using ho) he hb

theorem ordered_lt {ms : List Nat} {i j : Nat} (h : ordered ms i j = true) (hlt : i < j) : isBefore ms i j = true := by
  unfold ordered at h
  rw [Nat.min_eq_left (Nat.le_of_lt hlt), Nat.max_eq_right (Nat.le_of_lt hlt)] at h
  exact h
theorem ordered_gt {ms : List Nat} {i j : Nat} (h : ordered ms i j = true) (hlt : j < i) : isBefore ms j i = true := by
  unfold ordered at h
  rw [Nat.min_eq_right (Nat.le_of_lt hlt), Nat.max_eq_left (Nat.le_of_lt hlt)] at h
  exact h

theorem bar_ordered {j : Nat} (hb : bar ops j = true) {i : Nat} {o : Oper} (ho : ops[i]? = some o) (hh : heapOp o = true) (hne : i ≠ j) : ordered (masks ops.toList []) i j = true := by
  unfold bar barrier at hb
  rw [List.all_eq_true] at hb
  have hi : i < ops.toList.length := by simpa using (Array.getElem?_eq_some_iff.1 ho).1
  have := hb i (List.mem_range.2 hi)
  have ho' : ops.toList[i]? = some o := by simpa using ho
  rw [ho'] at this
  simpa [hne, hh] using this

theorem bar_ordered' {j : Nat} (hb : bar ops j = true) {i : Nat} {o : Oper} (ho : ops[i]? = some o) (hh : heapOp o = true) (hne : i ≠ j) : ordered (masks ops.toList []) j i = true := by
  have := bar_ordered hb ho hh hne
  unfold ordered at this ⊢
  rw [Nat.min_comm, Nat.max_comm]; exact this

end

end Go.AM
