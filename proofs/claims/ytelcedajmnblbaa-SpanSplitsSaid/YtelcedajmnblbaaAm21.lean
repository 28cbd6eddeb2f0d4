/-
  AM, part 21: symbolic operations: what is built, cut, grown.
-/
import Derived.Test.YtelcedajmnblbaaAm20
set_option linter.unusedVariables false
set_option linter.unusedSimpArgs false
namespace Go.AM

/-! ### values out of parts -/
def sfillL (place : Nat → Option (Nat × Nat)) (cells : List S0) : List (Nat × S2) → Option (List S0)
  | [] => some cells
  | (i, v) :: rest =>
    match place i, v.cells? with
    | some (off, size), some l => if l.length ≠ size || off + l.length > cells.length then none else sfillL place (swriteAt cells off l) rest
    | _, _ => none

theorem sfillL_sound {g : Sg} {place : Nat → Option (Nat × Nat)} : ∀ {parts : List (Nat × S2)} {cells l : List S0}, sfillL place cells parts = some l →
    fillL place (dens g cells) (parts.map fun p => (p.1, p.2.den g)) = some (dens g l)
  | [], cells, l, h => by simp only [sfillL, Option.some.injEq] at h; subst h; rfl
  | (i, v) :: rest, cells, l, h => by
    simp only [sfillL] at h
    split at h
    · rename_i off size l' h1 h2
      split at h
      · cases h
      · rename_i hc
        obtain ⟨a, _⟩ := S2.cells?_den (g := g) h2
        simp only [List.map_cons, fillL, h1, a, dens_length]
        rw [if_neg hc, ← swriteAt_den]
        exact sfillL_sound h
    · cases h

def sbuild (E : Env) (ty : TypeId) (parts : List (Nat × S2)) : Option S1 :=
  match E.under ty, E.info ty with
  | some (.struct fields), some (_, _, z) =>
    match ofC z with
    | some (.agg zl) =>
      match places E fields.toList with
      | some ps => (sfillL (fun i => ps[i]?) zl parts).map .agg
      | none => none
    | _ => none
  | some (.array _ elem), some (_, _, z) =>
    match ofC z with
    | some (.agg zl) =>
      match E.info elem with
      | some (size, _, _) => (sfillL (fun i => some (i * size, size)) zl parts).map .agg
      | none => none
    | _ => none
  | _, _ => none

theorem ofC_agg {z : Value} {zl : List S0} (h : ofC z = some (.agg zl)) (g : Sg) : flat z = true ∧ z.cells.toList = dens g zl := by
  obtain ⟨a, b⟩ := ofC_den h g
  refine ⟨b, ?_⟩
  rw [← a]; rfl

theorem sbuild_sound {E : Env} {g : Sg} {ty : TypeId} {parts : List (Nat × S2)} {v : S1} (h : sbuild E ty parts = some v) :
    abuild E ty (parts.map fun p => (p.1, p.2.den g)) = some (v.den g) := by
  unfold sbuild at h
  unfold abuild
  split at h
  · rename_i fields _ _ z h1 h2
    simp only [h1, h2]
    split at h
    · rename_i zl hz
      obtain ⟨a, b⟩ := ofC_agg hz g
      rw [if_pos a]
      split at h
      · rename_i ps h3
        obtain ⟨l, h4, rfl⟩ := Option.map_eq_some_iff.1 h
        simp only [h3, b, sfillL_sound h4]
        rfl
      · cases h
    · cases h
  · rename_i elem _ _ z h1 h2
    simp only [h1, h2]
    split at h
    · rename_i zl hz
      obtain ⟨a, b⟩ := ofC_agg hz g
      rw [if_pos a]
      split at h
      · rename_i size _ _ h3
        obtain ⟨l, h4, rfl⟩ := Option.map_eq_some_iff.1 h
        simp only [h3, b, sfillL_sound h4]
        rfl
      · cases h
    · cases h
  · cases h

def sreps : Nat → List S0 → List S0
  | 0, _ => []
  | n + 1, l => l ++ sreps n l
theorem sreps_den (g : Sg) (l : List S0) : ∀ n, dens g (sreps n l) = reps n (dens g l)
  | 0 => rfl
  | n + 1 => by simp only [sreps, dens_append, reps, sreps_den g l n]

/-- the cells of a zero value -/
def zcells (z : Value) : Option (List S0) :=
  match ofC z with
  | some (.agg l) => some l
  | some (.one s) => if s.ok then some [s] else none
  | _ => none
theorem zcells_den {z : Value} {l : List S0} (h : zcells z = some l) (g : Sg) : flat z = true ∧ z.cells.toList = dens g l := by
  unfold zcells at h
  split at h
  · rename_i l' hz
    obtain rfl := Option.some.inj h
    exact ofC_agg hz g
  · rename_i s hz
    split at h
    · rename_i hs
      obtain rfl := Option.some.inj h
      obtain ⟨a, b⟩ := ofC_den hz g
      exact ⟨b, by rw [← a]; exact (S0.cells hs).1⟩
    · cases h
  · cases h

def sslice0 (H : SH) (es : Nat) (n c : X) : S2 := s0 (.sl H.n es (.i 0) n c)
theorem sslice0_den {g : Sg} {H : SH} {h : AH} (hr : SR g H h) (es : Nat) (n c : X) : (sslice0 H es n c).den g = .slice (some ⟨h.n, 0, none⟩) (g.N n) (g.N c) := by
  have := hr.next 0
  simp only [Nat.add_zero] at this
  simp [sslice0, s0, S2.den, S1.den, S0.den, this]

def sbuildSlice (E : Env) (H : SH) (ty : TypeId) (len : Nat) (parts : List (Nat × S2)) : Option (S2 × SH) :=
  match E.under ty with
  | some (.slice elem) =>
    match E.info elem with
    | some (size, _, z) =>
      match zcells z with
      | some zl =>
        if 0 < size ∧ zl.length = size ∧ len * size ≤ 2 ^ 24 then
          match sfillL (fun i => some (i * size, size)) (sreps len zl) parts with
          | some cs => some (sslice0 H size (.i len) (.i len), H.push (.cells cs size true true))
          | none => none
        else none
      | none => none
    | none => none
  | _ => none

theorem sbuildSlice_sound {E : Env} {g : Sg} {H H' : SH} {h : AH} (hr : SR g H h) {ty : TypeId} {len : Nat} {parts : List (Nat × S2)} {v : S2} (hs : sbuildSlice E H ty len parts = some (v, H')) :
    ∃ h', abuildSlice E h ty len (parts.map fun p => (p.1, p.2.den g)) = some (v.den g, h') ∧ SR g H' h' := by
  unfold sbuildSlice at hs
  unfold abuildSlice
  split at hs
  · rename_i elem h1
    simp only [h1]
    split at hs
    · rename_i size _ z h2
      simp only [h2]
      split at hs
      · rename_i zl hz
        obtain ⟨a, b⟩ := zcells_den hz g
        split at hs
        · rename_i hc
          split at hs
          · rename_i cs h3
            simp only [Option.some.injEq, Prod.mk.injEq] at hs
            obtain ⟨rfl, rfl⟩ := hs
            rw [if_pos ⟨a, hc.1, by rw [b, dens_length]; exact hc.2.1, hc.2.2⟩, b, ← sreps_den, sfillL_sound h3]
            exact ⟨_, by rw [sslice0_den hr]; simp only [Sg.N_i, Int.toNat_natCast]; rfl, hr.push _⟩
          · cases hs
        · cases hs
      · cases hs
    · cases hs
  · cases hs

/-! ### rows -/
def ksOf : List S0 → Option (List K)
  | [] => some []
  | .sc k _ :: l => (ksOf l).map (k :: ·)
  | _ => none

theorem encR_reps (ks : List K) (d : D) : ∀ n, encR ks (List.replicate n d) = reps n (encL ks d.toL)
  | 0 => rfl
  | n + 1 => by simp only [List.replicate_succ, encR_cons, reps, encR_reps ks d n]

def smakeSlice (E : Env) (H : SH) (ty : TypeId) (l c : X) : Option (List X × S2 × SH) :=
  match E.under ty with
  | some (.slice elem) =>
    match E.info elem with
    | some (size, bytes, z) =>
      match zcells z with
      | some zl =>
        if 0 < size ∧ zl.length = size then
          match ksOf zl with
          | some ks =>
            match unk ks zl with
            | some e => some ([xle (.i 0) l, xle l c, xle c (.i (2 ^ 47)), xle (xmul (.i bytes) c) (.i (2 ^ 47))], sslice0 H size l c, H.push (.row (.reps c e) ks true true))
            | none => none
          | none => none
        else none
      | none => none
    | none => none
  | _ => none

theorem smakeSlice_sound {E : Env} {g : Sg} {H H' : SH} {h : AH} (hr : SR g H h) {ty : TypeId} {l c : X} {cs : List X} {v : S2} (hs : smakeSlice E H ty l c = some (cs, v, H')) (hc : ∀ c ∈ cs, g.B c = true) :
    ∃ h', amakeSlice E h ty (g.I l) (g.I c) = some (v.den g, h') ∧ SR g H' h' := by
  unfold smakeSlice at hs
  unfold amakeSlice
  split at hs
  · rename_i elem h1
    simp only [h1]
    split at hs
    · rename_i size bytes z h2
      simp only [h2]
      split at hs
      · rename_i zl hz
        obtain ⟨a, b⟩ := zcells_den hz g
        split at hs
        · rename_i hsz
          split at hs
          · rename_i ks hk
            split at hs
            · rename_i e he
              simp only [Option.some.injEq, Prod.mk.injEq] at hs
              obtain ⟨rfl, rfl, rfl⟩ := hs
              have c1 := Sg.B_le (hc (xle (.i 0) l) (by simp))
              have c2 := Sg.B_le (hc (xle l c) (by simp))
              have c3 := Sg.B_le (hc (xle c (.i (2 ^ 47))) (by simp))
              have c4 := Sg.B_le (hc (xle (xmul (.i bytes) c) (.i (2 ^ 47))) (by simp))
              have e4 : g.I (xmul (.i bytes) c) = bytes * g.I c := by simp [Sg.I, Sg.d, X.den]
              rw [e4] at c4
              simp only [Sg.I_i] at c1 c3 c4
              rw [if_pos ⟨a, hsz.1, by rw [b, dens_length]; exact hsz.2, c1, c2, c3, c4⟩]
              obtain ⟨u1, u2, u3⟩ := unk_den g he
              have hp := hr.push (.row (.reps c e) ks true true)
              have hb : SB.den g (.row (.reps c e) ks true true) = .cells (reps (g.I c).toNat z.cells.toList) size true true := by
                have hL : g.L (.reps c e) = List.replicate (g.N c) (g.d e) := rfl
                simp only [SB.den, hL, encR_reps, b]
                have : (g.d e).toL = g.L e := rfl
                rw [this, u1, Sg.I_toNat, ← u2]
                congr 1
                rw [← hsz.2, ← dens_length g zl, ← u1, encL_length, u2]
              rw [hb] at hp
              exact ⟨_, by rw [sslice0_den hr]; rfl, hp⟩
            · cases hs
          · cases hs
        · cases hs
      · cases hs
    · cases hs
  · cases hs

/-! ### slices of slices -/
/-- an operand that is a number, or isn't there -/
def numo : Option S2 → Option (Option (K × X))
  | none => some none
  | some (.one (.one (.sc (.int k) x))) => some (some (.int k, x))
  | _ => none

def ivo (g : Sg) : Option (K × X) → Option Value
  | none => none
  | some (k, x) => some (enc k (g.d x))

theorem numo_den {g : Sg} {v : Option S2} {x : Option (K × X)} (h : numo v = some x) : v.map (S2.den g) = ivo g x ∧ ∀ k y, x = some (k, y) → ∃ k', k = .int k' := by
  unfold numo at h
  split at h
  · obtain rfl := Option.some.inj h; exact ⟨rfl, fun k y e => by cases e⟩
  · obtain rfl := Option.some.inj h; exact ⟨rfl, fun k y e => by cases e; exact ⟨_, rfl⟩⟩
  · cases h

/-- a bound: its conditions, and what it is -/
def sbnd (v : Option (K × X)) (dflt : Option (List X × X)) (most : X) : Option (List X × X) :=
  match v with
  | none => dflt
  | some (_, x) => some ([xle (.i 0) x, xle x most], x)

theorem sbnd_some {g : Sg} {k : K} {x most : X} (hk : ∃ k', k = .int k') {d m : Nat} (hm : 0 ≤ g.I most → (m : Int) = g.I most) (hc : ∀ c ∈ [xle (.i 0) x, xle x most], g.B c = true) :
    abound (ivo g (some (k, x))) d m = some (g.N x) ∧ 0 ≤ g.I x ∧ g.I x ≤ g.I most := by
  obtain ⟨k', rfl⟩ := hk
  have c1 := Sg.B_le (hc (xle (.i 0) x) (by simp))
  have c2 := Sg.B_le (hc (xle x most) (by simp))
  simp only [Sg.I_i] at c1
  have := hm (by omega)
  have e : (g.d x).toI = g.I x := rfl
  simp only [ivo, enc, abound, e]
  rw [if_pos ⟨c1, by omega⟩]
  exact ⟨rfl, c1, c2⟩

/-- the three bounds: conditions, low, high, most -/
def sbnds (lo hi mx : Option (K × X)) (len cap : X) : Option (List X × X × X × X) :=
  match sbnd mx (some ([], cap)) cap with
  | some (c1, m) =>
    match sbnd hi (if mx.isSome then none else some ([xle len m], len)) m with
    | some (c2, hh) =>
      match sbnd lo (some ([], .i 0)) hh with
      | some (c3, l) => some (c1 ++ c2 ++ c3, l, hh, m)
      | none => none
    | none => none
  | none => none

theorem sbnds_sound {g : Sg} {lo hi mx : Option (K × X)} {len cap : X} {cs : List X} {l hh m : X} (h : sbnds lo hi mx len cap = some (cs, l, hh, m))
    (klo : ∀ k y, lo = some (k, y) → ∃ k', k = .int k') (khi : ∀ k y, hi = some (k, y) → ∃ k', k = .int k') (kmx : ∀ k y, mx = some (k, y) → ∃ k', k = .int k')
    (hc : ∀ c ∈ cs, g.B c = true) :
    abound (ivo g mx) (g.N cap) (g.N cap) = some (g.N m) ∧ abound (ivo g hi) (if (ivo g mx).isSome then g.N m + 1 else g.N len) (g.N m) = some (g.N hh) ∧
      abound (ivo g lo) 0 (g.N hh) = some (g.N l) ∧ 0 ≤ g.I l := by
  have nn : ∀ x, 0 ≤ g.I x → ((g.N x : Nat) : Int) = g.I x := fun x hx => by rw [Sg.I_toNat]; omega
  unfold sbnds at h
  split at h
  · rename_i c1 m' h1
    split at h
    · rename_i c2 hh' h2
      split at h
      · rename_i c3 l' h3
        simp only [Option.some.injEq, Prod.mk.injEq] at h
        obtain ⟨rfl, rfl, rfl, rfl⟩ := h
        have hm : abound (ivo g mx) (g.N cap) (g.N cap) = some (g.N m') := by
          cases mx with
          | none =>
            simp only [sbnd, Option.some.injEq, Prod.mk.injEq] at h1
            obtain ⟨rfl, rfl⟩ := h1
            simp [ivo, abound]
          | some p =>
            obtain ⟨k, x⟩ := p
            simp only [sbnd, Option.some.injEq, Prod.mk.injEq] at h1
            obtain ⟨rfl, rfl⟩ := h1
            exact (sbnd_some (kmx k x rfl) (nn cap) (fun c hm => hc c (by simp only [List.mem_append]; exact .inl (.inl hm)))).1
        have hi' : abound (ivo g hi) (if (ivo g mx).isSome then g.N m' + 1 else g.N len) (g.N m') = some (g.N hh') := by
          cases hi with
          | none =>
            simp only [sbnd] at h2
            split at h2
            · cases h2
            · rename_i hmx
              simp only [Option.some.injEq, Prod.mk.injEq] at h2
              obtain ⟨rfl, rfl⟩ := h2
              have hmx' : (ivo g mx).isSome = false := by cases mx <;> simp_all [ivo]
              have c := Sg.B_le (hc (xle len m') (by simp))
              rw [hmx']
              simp only [ivo, abound, Bool.false_eq_true, if_false]
              rw [if_pos (by simp only [Sg.I_toNat]; omega)]
          | some p =>
            obtain ⟨k, x⟩ := p
            simp only [sbnd, Option.some.injEq, Prod.mk.injEq] at h2
            obtain ⟨rfl, rfl⟩ := h2
            exact (sbnd_some (khi k x rfl) (nn m') (fun c hm => hc c (by simp only [List.mem_append]; exact .inl (.inr hm)))).1
        refine ⟨hm, hi', ?_⟩
        cases lo with
        | none =>
          simp only [sbnd, Option.some.injEq, Prod.mk.injEq] at h3
          obtain ⟨rfl, rfl⟩ := h3
          simp [ivo, abound]
        | some p =>
          obtain ⟨k, x⟩ := p
          simp only [sbnd, Option.some.injEq, Prod.mk.injEq] at h3
          obtain ⟨rfl, rfl⟩ := h3
          have := sbnd_some (d := 0) (klo k x rfl) (nn hh') (fun c hm => hc c (by simp only [List.mem_append]; exact .inr hm))
          exact ⟨this.1, this.2.1⟩
      · cases h
    · cases h
  · cases h

theorem N_sub {g : Sg} {a l : X} (hl : 0 ≤ g.I l) : g.N (xsub a l) = g.N a - g.N l := by simp only [Sg.I_toNat, Sg.I_sub]; omega
theorem N_add {g : Sg} {a l : X} (ha : 0 ≤ g.I a) (hl : 0 ≤ g.I l) : g.N (xadd a l) = g.N a + g.N l := by simp only [Sg.I_toNat, Sg.I_add]; omega

def SB.es : SB → Option Nat
  | .cells _ es _ _ => some es
  | .row _ ks _ _ => some ks.length
  | .dead => none

theorem SB.es_den {g : Sg} {k : SB} {es : Nat} (h : k.es = some es) : k.live = true ∧ ∃ c wr ex, k.den g = .cells c es wr ex := by
  cases k <;> simp only [SB.es, Option.some.injEq] at h
  · cases h
  · subst h; exact ⟨rfl, _, _, _, rfl⟩
  · subst h; exact ⟨rfl, _, _, _, rfl⟩

def sslice (E : Env) (H : SH) (ty : TypeId) (x : S1) (lo hi mx : Option (K × X)) : Option (List X × S0) :=
  match E.under ty, x with
  | some (.slice elem), .one (.sl b es i len cap) =>
    match E.info elem with
    | some (size, _, _) =>
      if size = es ∧ b < H.n ∧ (H.b b).es = some es then
        match sbnds lo hi mx len cap with
        | some (cs, l, hh, m) => some (xle (.i 0) i :: cs, .sl b es (xadd i l) (xsub hh l) (xsub m l))
        | none => none
      else none
    | none => none
  | some (.array n elem), .one (.ptr b _ (.i 0) off) =>
    match E.info elem with
    | some (size, _, _) =>
      if b < H.n ∧ 0 < size then
        match H.b b with
        | .cells c es _ true =>
          if size = es ∧ off + n * size ≤ c.length ∧ off % size = 0 then
            match sbnds lo hi mx (.i n) (.i n) with
            | some (cs, l, hh, m) => some (cs, .sl b size (xadd (.i (off / size : Nat)) l) (xsub hh l) (xsub m l))
            | none => none
          else none
        | _ => none
      else none
    | none => none
  | _, _ => none

theorem sslice_sound {E : Env} {g : Sg} {H : SH} {h : AH} (hr : SR g H h) {ty : TypeId} {x : S1} {lo hi mx : Option (K × X)} {cs : List X} {v : S0}
    (klo : ∀ k y, lo = some (k, y) → ∃ k', k = .int k') (khi : ∀ k y, hi = some (k, y) → ∃ k', k = .int k') (kmx : ∀ k y, mx = some (k, y) → ∃ k', k = .int k')
    (hs : sslice E H ty x lo hi mx = some (cs, v)) (hc : ∀ c ∈ cs, g.B c = true) :
    aslice E h ty (x.den g) (ivo g lo) (ivo g hi) (ivo g mx) = some (v.den g) := by
  unfold sslice at hs
  split at hs
  · rename_i elem b es i len cap h1
    split at hs
    · rename_i size _ _ h2
      split at hs
      · rename_i hb
        obtain ⟨rfl, hb, hes⟩ := hb
        split at hs
        · rename_i cs' l hh m h3
          simp only [Option.some.injEq, Prod.mk.injEq] at hs
          obtain ⟨rfl, rfl⟩ := hs
          have c0 := Sg.B_le (hc (xle (.i 0) i) (by simp))
          simp only [Sg.I_i] at c0
          obtain ⟨b1, b2, b3, b4⟩ := sbnds_sound (g := g) h3 klo khi kmx (fun c hm => hc c (List.mem_cons_of_mem _ hm))
          obtain ⟨hl, c, wr, ex, hd⟩ := SB.es_den (g := g) hes
          obtain ⟨hk, _⟩ := hr.blk b hb hl
          rw [hd] at hk
          simp only [aslice, h1, S1.den, S0.den, h2, hk, b1, b2, b3, asliceOf, add_none]
          simp [N_sub b4, N_add c0 b4, Nat.add_mul]
        · cases hs
      · cases hs
    · cases hs
  · rename_i n elem b es off h1
    split at hs
    · rename_i size _ _ h2
      split at hs
      · rename_i hb
        obtain ⟨hb, hpos⟩ := hb
        split at hs
        · rename_i c es' wr hk0
          split at hs
          · rename_i hcond
            obtain ⟨rfl, hlen, hmod⟩ := hcond
            split at hs
            · rename_i cs' l hh m h3
              simp only [Option.some.injEq, Prod.mk.injEq] at hs
              obtain ⟨rfl, rfl⟩ := hs
              obtain ⟨b1, b2, b3, b4⟩ := sbnds_sound (g := g) h3 klo khi kmx hc
              obtain ⟨hk, _⟩ := hr.blk b hb (by rw [hk0]; rfl)
              rw [hk0] at hk
              simp only [SB.den] at hk
              simp only [Sg.N_i, Int.toNat_natCast] at b1 b2
              have e0 : g.N (.i 0) * es + off = off := by simp
              simp only [aslice, h1, S1.den, S0.den, h2, e0, hk, dens_length]
              rw [if_neg (by omega)]
              simp only [b1, b2, b3, asliceOf, add_none]
              have e1 : off / size * size = off := Nat.div_mul_cancel (Nat.dvd_of_mod_eq_zero hmod)
              rw [N_sub b4, N_sub b4, N_add (by simp only [Sg.I_i]; exact Int.natCast_nonneg _) b4, Nat.add_mul]
              simp only [Sg.N_i, Int.toNat_natCast, e1]
            · cases hs
          · cases hs
        · cases hs
      · cases hs
    · cases hs
  · cases hs

end Go.AM
