/-
  AM, part 19: symbolic operations: reading and writing cells.
-/
import Derived.Test.YtelcedajmnblbaaAm18
set_option linter.unusedVariables false
set_option linter.unusedSimpArgs false
namespace Go.AM

/-! ### rows of typed elements -/
theorem encL_length : ∀ (ks : List K) (ds : List D), (encL ks ds).length = ks.length
  | [], _ => rfl
  | _ :: ks, ds => by simp [encL, encL_length ks]

theorem encL_get : ∀ (ks : List K) (ds : List D) (j : Nat), (encL ks ds)[j]? = (ks[j]?).map fun k => enc k ((ds[j]?).getD default)
  | [], _, j => by simp [encL]
  | k :: ks, ds, 0 => by cases ds <;> simp [encL]
  | k :: ks, ds, j + 1 => by
    simp only [encL, List.getElem?_cons_succ, encL_get ks]
    cases ds <;> simp

theorem encR_nil (ks : List K) : encR ks [] = [] := rfl
theorem encR_cons (ks : List K) (d : D) (rs : List D) : encR ks (d :: rs) = encL ks d.toL ++ encR ks rs := by simp [encR]
theorem encR_append (ks : List K) (a b : List D) : encR ks (a ++ b) = encR ks a ++ encR ks b := by simp [encR]
theorem encR_length (ks : List K) : ∀ (rs : List D), (encR ks rs).length = rs.length * ks.length
  | [] => by simp [encR]
  | d :: rs => by simp [encR_cons, encL_length, encR_length ks rs, Nat.add_mul]; omega

theorem encR_take (ks : List K) : ∀ (rs : List D) (n : Nat), (encR ks rs).take (n * ks.length) = encR ks (rs.take n)
  | [], n => by simp [encR]
  | d :: rs, 0 => by simp [encR]
  | d :: rs, n + 1 => by
    rw [List.take_succ_cons, encR_cons, encR_cons, Nat.add_mul, Nat.one_mul, Nat.add_comm, List.take_append]
    rw [encL_length, show ks.length + n * ks.length - ks.length = n * ks.length by omega, encR_take ks rs n, List.take_of_length_le (by rw [encL_length]; omega)]
theorem encR_drop (ks : List K) : ∀ (rs : List D) (n : Nat), (encR ks rs).drop (n * ks.length) = encR ks (rs.drop n)
  | [], n => by simp [encR]
  | d :: rs, 0 => by simp
  | d :: rs, n + 1 => by
    rw [List.drop_succ_cons, encR_cons, Nat.add_mul, Nat.one_mul, Nat.add_comm, List.drop_append]
    simp [encL_length, encR_drop ks rs n]

/-- a piece of one element -/
theorem encR_piece (ks : List K) (rs : List D) (i o n : Nat) (hi : i < rs.length) (ho : o + n ≤ ks.length) :
    ((encR ks rs).drop (i * ks.length + o)).take n = ((encL ks ((rs[i]?).getD default).toL).drop o).take n := by
  rw [← List.drop_drop, encR_drop]
  obtain ⟨d, hd⟩ : ∃ d, rs[i]? = some d := ⟨rs[i], by simp [hi]⟩
  have : rs.drop i = d :: rs.drop (i + 1) := by
    rw [List.drop_eq_getElem_cons hi]
    congr 1
    have := List.getElem?_eq_getElem hi
    rw [this] at hd; exact Option.some.inj hd
  rw [this, encR_cons, hd, Option.getD_some, List.drop_append, encL_length]
  rw [List.take_append]
  simp only [List.length_drop, encL_length]
  rw [show n - (ks.length - o) = 0 by omega, List.take_zero, List.append_nil]

theorem encR_get (ks : List K) (rs : List D) (i o : Nat) (hi : i < rs.length) (ho : o < ks.length) :
    (encR ks rs)[i * ks.length + o]? = (encL ks ((rs[i]?).getD default).toL)[o]? := by
  have := encR_piece ks rs i o 1 hi (by omega)
  have h1 := congrArg (·[0]?) this
  simpa [List.getElem?_take, List.getElem?_drop] using h1

theorem writeAt_append_right : ∀ (vs a b : List Value) (o : Nat), writeAt (a ++ b) (a.length + o) vs = a ++ writeAt b o vs
  | [], a, b, o => rfl
  | v :: vs, a, b, o => by
    simp only [writeAt]
    rw [List.set_append_right _ _ (by omega), show a.length + o - a.length = o by omega]
    exact writeAt_append_right vs a (b.set o v) (o + 1)
theorem writeAt_append_left : ∀ (vs a b : List Value) (o : Nat), o + vs.length ≤ a.length → writeAt (a ++ b) o vs = writeAt a o vs ++ b
  | [], a, b, o, _ => rfl
  | v :: vs, a, b, o, h => by
    simp only [writeAt, List.length_cons] at *
    rw [List.set_append_left _ _ (by omega)]
    exact writeAt_append_left vs (a.set o v) b (o + 1) (by simp; omega)

theorem encR_write (ks : List K) (vs : List Value) : ∀ (rs : List D) (i o : Nat) (d : D), i < rs.length → o + vs.length ≤ ks.length →
    encL ks d.toL = writeAt (encL ks ((rs[i]?).getD default).toL) o vs → writeAt (encR ks rs) (i * ks.length + o) vs = encR ks (setL rs i d)
  | [], i, o, d, h, _, _ => by simp at h
  | r :: rs, 0, o, d, h, ho, e => by
    simp only [setL, List.set_cons_zero, encR_cons, Nat.zero_mul, Nat.zero_add] at *
    rw [writeAt_append_left _ _ _ _ (by rw [encL_length]; exact ho), e]
    simp
  | r :: rs, i + 1, o, d, h, ho, e => by
    simp only [setL, List.set_cons_succ, encR_cons] at *
    have := writeAt_append_right vs (encL ks r.toL) (encR ks rs) (i * ks.length + o)
    rw [encL_length] at this
    rw [Nat.add_mul, Nat.one_mul, show i * ks.length + ks.length + o = ks.length + (i * ks.length + o) by omega, this]
    congr 1
    exact encR_write ks vs rs i o d (by simpa using h) ho (by simpa using e)

/-! ### the parts of an element -/
def comps (e : X) : List K → Nat → List S0
  | [], _ => []
  | k :: ks, j => .sc k (xget e j) :: comps e ks (j + 1)

theorem comps_den (g : Sg) (e : X) : ∀ (ks : List K) (j : Nat), dens g (comps e ks j) = encL ks ((g.L e).drop j)
  | [], _ => rfl
  | k :: ks, j => by
    simp only [comps, dens, List.map_cons, encL, S0.den]
    have := comps_den g e ks (j + 1)
    simp only [dens] at this
    rw [this]
    congr 1
    · simp only [Sg.d, xget_den, Sg.L]
      congr 1
      rw [List.headD_eq_head?_getD, List.head?_drop]
    · rw [List.tail_drop]

/-- letters of cells, if they are of these kinds -/
def unk : List K → List S0 → Option X
  | [], [] => some .nil
  | k :: ks, .sc k' x :: l => if k = k' then (unk ks l).map (X.cons x) else none
  | _, _ => none

theorem unk_den (g : Sg) : ∀ {ks : List K} {l : List S0} {x : X}, unk ks l = some x → encL ks (g.L x) = dens g l ∧ (g.L x).length = ks.length ∧ g.d x = .l (g.L x)
  | [], [], x, h => by simp only [unk, Option.some.injEq] at h; subst h; exact ⟨rfl, rfl, rfl⟩
  | k :: ks, .sc k' y :: l, x, h => by
    simp only [unk] at h
    split at h
    · rename_i e
      subst e
      obtain ⟨z, h1, rfl⟩ := Option.map_eq_some_iff.1 h
      obtain ⟨a, b, c⟩ := unk_den g h1
      have hl : g.L (.cons y z) = g.d y :: g.L z := rfl
      exact ⟨by simp only [hl, encL, List.headD_cons, List.tail_cons, a, dens, List.map_cons, S0.den], by simp [hl, b], rfl⟩
    · cases h
  | [], _ :: _, x, h => by cases h
  | _ :: _, [], x, h => by cases h
  | _ :: _, .cst _ :: _, x, h => by cases h
  | _ :: _, .ptr _ _ _ _ :: _, x, h => by cases h
  | _ :: _, .sl _ _ _ _ _ :: _, x, h => by cases h

/-! ### cells of values -/
def S0.ok : S0 → Bool
  | .cst .undef => false
  | _ => true

theorem S0.cells {g : Sg} {s : S0} (h : s.ok = true) : (s.den g).cells.toList = [s.den g] ∧ (s.den g).oneCell' = true := by
  cases s with
  | sc k x => cases k <;> exact ⟨rfl, rfl⟩
  | cst c => cases c <;> first | exact ⟨rfl, rfl⟩ | cases h
  | ptr => exact ⟨rfl, rfl⟩
  | sl => exact ⟨rfl, rfl⟩

def S1.cells? : S1 → Option (List S0)
  | .one s => if s.ok then some [s] else none
  | .agg l => if l.all S0.ok then some l else none
  | .clo _ _ _ => none

def S2.cells? : S2 → Option (List S0)
  | .one s => s.cells?
  | .tup _ => none
  | .unk _ _ => none

theorem dens_one {g : Sg} {l : List S0} (h : l.all S0.ok = true) : (dens g l).all Value.oneCell' = true := by
  simp only [dens, List.all_map, List.all_eq_true] at *
  exact fun s hs => (S0.cells (h s hs)).2

theorem S2.cells?_den {g : Sg} {v : S2} {l : List S0} (h : v.cells? = some l) : (v.den g).cells.toList = dens g l ∧ (dens g l).all Value.oneCell' = true := by
  cases v with
  | tup _ => cases h
  | unk _ _ => cases h
  | one s =>
    cases s with
    | clo _ _ _ => cases h
    | one s =>
      simp only [S2.cells?, S1.cells?] at h
      split at h
      · rename_i hk
        obtain rfl := Option.some.inj h
        obtain ⟨a, b⟩ := S0.cells (g := g) hk
        exact ⟨a, by simp [dens, b]⟩
      · cases h
    | agg l' =>
      simp only [S2.cells?, S1.cells?] at h
      split at h
      · rename_i hk
        obtain rfl := Option.some.inj h
        exact ⟨rfl, dens_one hk⟩
      · cases h

theorem dens_length (g : Sg) (l : List S0) : (dens g l).length = l.length := by simp [dens]
theorem dens_get (g : Sg) (l : List S0) (i : Nat) : (dens g l)[i]? = (l[i]?).map (S0.den g) := by simp [dens]
theorem dens_drop (g : Sg) (l : List S0) (i : Nat) : (dens g l).drop i = dens g (l.drop i) := by simp [dens]
theorem dens_take (g : Sg) (l : List S0) (i : Nat) : (dens g l).take i = dens g (l.take i) := by simp [dens]
theorem dens_append (g : Sg) (a b : List S0) : dens g (a ++ b) = dens g a ++ dens g b := by simp [dens]

def swriteAt : List S0 → Nat → List S0 → List S0
  | c, _, [] => c
  | c, o, v :: vs => swriteAt (c.set o v) (o + 1) vs

theorem swriteAt_den (g : Sg) : ∀ (vs c : List S0) (o : Nat), dens g (swriteAt c o vs) = writeAt (dens g c) o (dens g vs)
  | [], _, _ => rfl
  | v :: vs, c, o => by
    have := swriteAt_den g vs (c.set o v) (o + 1)
    simp only [dens, List.map_cons, writeAt, List.map_set] at *
    exact this

theorem swriteAt_ok : ∀ (vs c : List S0) (o : Nat), (swriteAt c o vs).length = c.length
  | [], _, _ => rfl
  | v :: vs, c, o => by simp [swriteAt, swriteAt_ok vs]

/-! ### reading -/
def inRow (x i : X) : List X := [xle (.i 0) i, xlt i (xlen x)]

theorem inRow_den {g : Sg} {x i : X} (h : ∀ c ∈ inRow x i, g.B c = true) : g.N i < (g.L x).length := by
  have h1 := h (xle (.i 0) i) (by simp [inRow])
  have h2 := h (xlt i (xlen x)) (by simp [inRow])
  simp only [Sg.B, Sg.d, xle_den, xlt_den, xlen_den, D.toI_i, X.den, decide_eq_true_eq] at h1 h2
  simp only [Sg.N, Sg.I, Sg.d, Sg.L]
  have h1 := of_decide_eq_true h1
  omega

/-- n cells at a place -/
def sgetN (H : SH) (b es : Nat) (i : X) (off n : Nat) : Option (List X × List S0) :=
  match H.b b with
  | .cells c _ _ _ => match i with
    | .i z => let k := z.toNat * es + off
      if k + n ≤ c.length then some ([], (c.drop k).take n) else none
    | _ => none
  | .row x ks _ _ =>
    if es = ks.length ∧ off + n ≤ es then some (inRow x i, ((comps (xat x i) ks 0).drop off).take n) else none
  | .dead => none

def fits (H : SH) (b : Nat) : Bool := decide (b < H.n)

theorem sgetN_sound {g : Sg} {H : SH} {h : AH} (hr : SR g H h) {b es : Nat} {i : X} {off n : Nat} (hb : b < H.n) {cs : List X} {l : List S0} (hs : sgetN H b es i off n = some (cs, l))
    (hc : ∀ c ∈ cs, g.B c = true) : h.getN ⟨g.σ b, g.N i * es + off, none⟩ n = some (dens g l) := by
  unfold sgetN at hs
  split at hs
  · rename_i c es' wr ex hk
    obtain ⟨h1, _⟩ := hr.blk b hb (by rw [hk]; rfl)
    split at hs
    · rename_i z
      simp only at hs
      split at hs
      · rename_i hfit
        simp only [Option.some.injEq, Prod.mk.injEq] at hs
        obtain ⟨rfl, rfl⟩ := hs
        unfold AH.getN
        simp only [h1, hk, SB.den]
        have hz : g.N (.i z) = z.toNat := rfl
        rw [hz, dens_length, if_pos hfit, dens_drop, dens_take]
      · cases hs
    · cases hs
  · rename_i x ks wr ex hk
    obtain ⟨h1, _⟩ := hr.blk b hb (by rw [hk]; rfl)
    split at hs
    · rename_i hfit
      obtain ⟨rfl, hfit⟩ := hfit
      simp only [Option.some.injEq, Prod.mk.injEq] at hs
      obtain ⟨rfl, rfl⟩ := hs
      have hi := inRow_den hc
      unfold AH.getN
      simp only [h1, hk, SB.den]
      have hle : g.N i * ks.length + off + n ≤ (encR ks (g.L x)).length := by
        rw [encR_length]
        have := Nat.mul_le_mul_right ks.length (Nat.succ_le_of_lt hi)
        rw [Nat.succ_mul] at this
        omega
      rw [if_pos hle, encR_piece _ _ _ _ _ hi hfit, ← dens_take, ← dens_drop, comps_den]
      simp only [List.drop_zero, Sg.L, Sg.d, xat_den]
      rfl
    · cases hs
  · cases hs

theorem getN_one {h : AH} {a : Addr} {v : Value} (hg : h.getN a 1 = some [v]) : h.get a = some v := by
  unfold AH.getN at hg
  unfold AH.get
  split at hg
  · rename_i c _ _ _ e1 e2
    split at hg
    · have := congrArg (·[0]?) (Option.some.inj hg)
      simpa [List.getElem?_take, List.getElem?_drop] using this
    · cases hg
  · cases hg

def sload (SE_ : Env) (H : SH) (ty : TypeId) (b es : Nat) (i : X) (off : Nat) : Option (List X × S1) :=
  match SE_.under ty, SE_.info ty with
  | some d, some (n, _, _) =>
    if b < H.n then
      if isAggD d then (sgetN H b es i off n).map fun r => (r.1, .agg r.2)
      else match sgetN H b es i off 1 with
        | some (cs, [s]) => some (cs, .one s)
        | _ => none
    else none
  | _, _ => none

theorem sload_sound {E : Env} {g : Sg} {H : SH} {h : AH} (hr : SR g H h) {ty : TypeId} {b es : Nat} {i : X} {off : Nat} {cs : List X} {v : S1} (hs : sload E H ty b es i off = some (cs, v))
    (hc : ∀ c ∈ cs, g.B c = true) : aload E h ty ⟨g.σ b, g.N i * es + off, none⟩ = some (v.den g) := by
  unfold sload at hs
  split at hs
  · rename_i d n _ _ h1 h2
    split at hs
    · rename_i hb
      unfold aload
      simp only [h1, h2]
      split at hs
      · rename_i hd
        obtain ⟨⟨cs', l⟩, h3, h4⟩ := Option.map_eq_some_iff.1 hs
        simp only [Prod.mk.injEq] at h4
        obtain ⟨rfl, rfl⟩ := h4
        rw [if_pos hd, sgetN_sound hr hb h3 hc]
        rfl
      · rename_i hd
        split at hs
        · rename_i cs' s h3
          simp only [Option.some.injEq, Prod.mk.injEq] at hs
          obtain ⟨rfl, rfl⟩ := hs
          rw [if_neg hd]
          exact getN_one (sgetN_sound hr hb h3 hc)
        · cases hs
    · cases hs
  · cases hs

/-! ### writing -/
def ssetN (H : SH) (b es : Nat) (i : X) (off : Nat) (vs : List S0) : Option (List X × SH) :=
  if b < H.n ∧ H.lim ≤ b then
    match H.b b with
    | .cells c ce true ex => match i with
      | .i z => let k := z.toNat * es + off
        if k + vs.length ≤ c.length then some ([], H.upd b (.cells (swriteAt c k vs) ce true ex)) else none
      | _ => none
    | .row x ks true ex =>
      if es = ks.length ∧ off + vs.length ≤ es then
        match unk ks (swriteAt (comps (xat x i) ks 0) off vs) with
        | some e => some (inRow x i, H.upd b (.row (.set x i e) ks true ex))
        | none => none
      else none
    | _ => none
  else none

theorem ssetN_sound {g : Sg} {H H' : SH} {h : AH} (hr : SR g H h) {b es : Nat} {i : X} {off : Nat} {vs : List S0} (hone : (dens g vs).all Value.oneCell' = true) {cs : List X}
    (hs : ssetN H b es i off vs = some (cs, H')) (hc : ∀ c ∈ cs, g.B c = true) :
    ∃ h', h.setN ⟨g.σ b, g.N i * es + off, none⟩ (dens g vs) = some h' ∧ SR g H' h' := by
  unfold ssetN at hs
  split at hs
  · rename_i hbl
    obtain ⟨hb, hlim⟩ := hbl
    have hl := hr.lim b hlim
    split at hs
    · rename_i c ce ex hk
      obtain ⟨h1, _⟩ := hr.blk b hb (by rw [hk]; rfl)
      split at hs
      · rename_i z
        simp only at hs
        split at hs
        · rename_i hfit
          simp only [Option.some.injEq, Prod.mk.injEq] at hs
          obtain ⟨rfl, rfl⟩ := hs
          have hup := hr.upd hb (by rw [hk]; rfl) (.cells (swriteAt c (z.toNat * es + off) vs) ce true ex)
          refine ⟨_, ?_, hup⟩
          unfold AH.setN
          have hz : g.N (.i z) = z.toNat := rfl
          simp only [h1, hk, SB.den, hz]
          rw [dens_length, dens_length, if_pos ⟨hfit, hone, hl⟩, swriteAt_den]
        · cases hs
      · cases hs
    · rename_i x ks ex hk
      obtain ⟨h1, _⟩ := hr.blk b hb (by rw [hk]; rfl)
      split at hs
      · rename_i hfit
        obtain ⟨rfl, hfit⟩ := hfit
        split at hs
        · rename_i e hu
          simp only [Option.some.injEq, Prod.mk.injEq] at hs
          obtain ⟨rfl, rfl⟩ := hs
          have hi := inRow_den hc
          have hup := hr.upd hb (by rw [hk]; rfl) (.row (.set x i e) ks true ex)
          refine ⟨_, ?_, hup⟩
          unfold AH.setN
          simp only [h1, hk, SB.den]
          have hle : g.N i * ks.length + off + (dens g vs).length ≤ (encR ks (g.L x)).length := by
            rw [encR_length, dens_length]
            have := Nat.mul_le_mul_right ks.length (Nat.succ_le_of_lt hi)
            rw [Nat.succ_mul] at this
            omega
          rw [if_pos ⟨hle, hone, hl⟩]
          obtain ⟨a1, a2, a3⟩ := unk_den g hu
          rw [swriteAt_den, comps_den] at a1
          have hd : g.L (.set x i e) = setL (g.L x) (g.N i) (g.d e) := rfl
          rw [hd, encR_write ks (dens g vs) (g.L x) (g.N i) off (g.d e) hi (by rw [dens_length]; exact hfit)]
          have he : (g.d e).toL = g.L e := rfl
          rw [he, a1]
          simp only [List.drop_zero, Sg.L, Sg.d, xat_den]
          rfl
        · cases hs
      · cases hs
    · cases hs
  · cases hs

end Go.AM
