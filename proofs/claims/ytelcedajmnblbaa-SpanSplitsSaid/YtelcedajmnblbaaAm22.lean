/-
  AM, part 22: symbolic append.
-/
import Derived.Test.YtelcedajmnblbaaAm21
set_option linter.unusedVariables false
set_option linter.unusedSimpArgs false
namespace Go.AM

inductive SRes where
  | stuck
  | one (cs : List X) (v : S2) (H : SH)
  | br (c : X) (a b : SRes)

def SRes.sel (g : Sg) : SRes → Option (List X × S2 × SH)
  | .stuck => none
  | .one cs v H => some (cs, v, H)
  | .br c a b => if g.B c then a.sel g else b.sel g

def sbr (c : X) (a b : SRes) : SRes :=
  match c with
  | .b true => a
  | .b false => b
  | c => .br c a b

theorem sbr_sel {g : Sg} (c : X) (a b : SRes) : (sbr c a b).sel g = if g.B c then a.sel g else b.sel g := by
  unfold sbr
  split <;> simp [SRes.sel, Sg.B, Sg.d, X.den]

/-- cells, as elements -/
def unkR (ks : List K) : Nat → List S0 → Option X
  | 0, [] => some .nil
  | n + 1, l => match unk ks (l.take ks.length), unkR ks n (l.drop ks.length) with
    | some e, some r => some (.cons e r)
    | _, _ => none
  | _, _ => none

theorem unkR_den {g : Sg} {ks : List K} : ∀ {n : Nat} {l : List S0} {x : X}, unkR ks n l = some x → encR ks (g.L x) = dens g l ∧ (g.L x).length = n
  | 0, [], x, h => by simp only [unkR, Option.some.injEq] at h; subst h; exact ⟨rfl, rfl⟩
  | 0, _ :: _, x, h => by cases h
  | n + 1, l, x, h => by
    simp only [unkR] at h
    split at h
    · rename_i e r h1 h2
      obtain rfl := Option.some.inj h
      obtain ⟨a1, a2, a3⟩ := unk_den g h1
      obtain ⟨b1, b2⟩ := unkR_den (g := g) h2
      have hl : g.L (.cons e r) = g.d e :: g.L r := rfl
      rw [hl, encR_cons, b1]
      have : (g.d e).toL = g.L e := rfl
      rw [this, a1, ← dens_append, List.take_append_drop]
      exact ⟨rfl, by simp [b2]⟩
    · cases h

/-- what a slice holds: conditions, elements, how many -/
def scont (H : SH) (ks : List K) : S0 → Option (List X × X × X)
  | .cst .nilSlice => some ([], .nil, .i 0)
  | .sl b es i n _ =>
    if es = ks.length ∧ b < H.n then
      match H.b b with
      | .row r ks' _ _ => if ks' = ks then some ([xle (.i 0) i, xle (.i 0) n, xle (xadd i n) (xlen r)], xseg r i n, n) else none
      | .cells c ces _ _ => match i, n with
        | .i zi, .i zn =>
          if ces = es ∧ 0 ≤ zn ∧ zi.toNat * es + zn.toNat * es ≤ c.length then
            (unkR ks zn.toNat ((c.drop (zi.toNat * es)).take (zn.toNat * es))).map fun x => ([], x, n)
          else none
        | _, _ => none
      | .dead => none
    else none
  | _ => none

theorem sliceCells_of {h : AH} {size : Nat} {a : Addr} {n c : Nat} {l : List Value} (hg : h.getN a (n * size) = some l) : sliceCells h size (.slice (some a) n c) = some l := by
  simp only [sliceCells]
  split
  · rename_i hn
    subst hn
    unfold AH.getN at hg
    split at hg
    · split at hg
      · simpa using hg
      · cases hg
    · cases hg
  · exact hg

theorem scont_sound {g : Sg} {H : SH} {h : AH} (hr : SR g H h) {ks : List K} {s : S0} {cs : List X} {x n : X} (hs : scont H ks s = some (cs, x, n)) (hc : ∀ c ∈ cs, g.B c = true) :
    ∃ p c, s.den g = .slice p (g.N n) c ∧ sliceCells h ks.length (s.den g) = some (encR ks (g.L x)) ∧ 0 ≤ g.I n ∧ (g.L x).length = g.N n := by
  unfold scont at hs
  split at hs
  · simp only [Option.some.injEq, Prod.mk.injEq] at hs
    obtain ⟨rfl, rfl, rfl⟩ := hs
    exact ⟨none, 0, rfl, rfl, Int.le_refl 0, rfl⟩
  · rename_i b es i n' cap
    split at hs
    · rename_i hb
      obtain ⟨rfl, hb⟩ := hb
      split at hs
      · rename_i r ks' wr ex hk
        split at hs
        · rename_i hks
          subst hks
          simp only [Option.some.injEq, Prod.mk.injEq] at hs
          obtain ⟨rfl, rfl, rfl⟩ := hs
          have c1 := Sg.B_le (hc (xle (.i 0) i) (by simp))
          have c2 := Sg.B_le (hc (xle (.i 0) n') (by simp))
          have c3 := Sg.B_le (hc (xle (xadd i n') (xlen r)) (by simp))
          simp only [Sg.I_i, Sg.I_add] at c1 c2 c3
          have e3 : g.I (xlen r) = (g.L r).length := by simp only [Sg.I, Sg.d, xlen_den, D.toI_i, Sg.L]
          rw [e3] at c3
          obtain ⟨h1, _⟩ := hr.blk b hb (by rw [hk]; rfl)
          rw [hk] at h1
          have hfit : g.N i + g.N n' ≤ (g.L r).length := by simp only [Sg.I_toNat]; omega
          have hL : g.L (xseg r i n') = ((g.L r).drop (g.N i)).take (g.N n') := by simp only [Sg.L, Sg.d, xseg_den]; rfl
          refine ⟨_, _, rfl, ?_, c2, by rw [hL]; simp; omega⟩
          refine sliceCells_of ?_
          unfold AH.getN
          simp only [h1, SB.den]
          have hm := Nat.mul_le_mul_right ks'.length hfit
          rw [Nat.add_mul] at hm
          rw [if_pos (by rw [encR_length]; exact hm), encR_drop, encR_take, hL]
        · cases hs
      · rename_i c es' wr ex hk
        split at hs
        · rename_i zi zn
          split at hs
          · rename_i hz
            obtain ⟨y, h2, h3⟩ := Option.map_eq_some_iff.1 hs
            simp only [Prod.mk.injEq] at h3
            obtain ⟨rfl, rfl, rfl⟩ := h3
            obtain ⟨u1, u2⟩ := unkR_den (g := g) h2
            obtain ⟨h1, _⟩ := hr.blk b hb (by rw [hk]; rfl)
            rw [hk] at h1
            refine ⟨_, _, rfl, ?_, hz.2.1, u2⟩
            refine sliceCells_of ?_
            unfold AH.getN
            simp only [h1, SB.den]
            rw [if_pos (by simpa [dens_length] using hz.2.2), u1, dens_drop, dens_take]
            simp only [Sg.N_i]
          · cases hs
        · cases hs
      · cases hs
    · cases hs
  · cases hs

theorem enc_one (k : K) (d : D) : (enc k d).oneCell' = true := by cases k <;> rfl
theorem encL_one : ∀ (ks : List K) (ds : List D), (encL ks ds).all Value.oneCell' = true
  | [], _ => rfl
  | k :: ks, ds => by simp [encL, enc_one, encL_one ks]
theorem encR_one (ks : List K) : ∀ (rs : List D), (encR ks rs).all Value.oneCell' = true
  | [] => rfl
  | d :: rs => by simp [encR_cons, encL_one, encR_one ks rs, List.all_append]

theorem writeAt_eq : ∀ (vs c : List Value) (o : Nat), o + vs.length ≤ c.length → writeAt c o vs = c.take o ++ vs ++ c.drop (o + vs.length)
  | [], c, o, _ => by simp [writeAt]
  | v :: vs, c, o, h => by
    simp only [List.length_cons] at h
    have ih := writeAt_eq vs (c.set o v) (o + 1) (by simp; omega)
    simp only [writeAt, ih, List.length_cons]
    have h1 : (c.set o v).take (o + 1) = c.take o ++ [v] := by
      rw [List.take_add_one, List.take_set_of_le (Nat.le_refl o)]
      rw [List.getElem?_set_self (by omega)]
      rfl
    have h2 : (c.set o v).drop (o + 1 + vs.length) = c.drop (o + (vs.length + 1)) := by
      rw [List.drop_set_of_lt (by omega)]
      congr 1; omega
    rw [h1, h2]
    simp

/-- the row, with elements put into it -/
def xput (r p k new : X) : X := .cat (.seg r (.i 0) p) (.cat new (.seg r (xadd p k) (.len r)))

def sappend (E : Env) (H : SH) (sTy xTy : TypeId) (s x : S0) : SRes :=
  match E.under sTy, E.under xTy with
  | some (.slice elem), some (.slice _) =>
    match E.info elem with
    | some (size, bytes, z) =>
      match zcells z with
      | some zl =>
        match ksOf zl with
        | some ks =>
          if 0 < size ∧ zl.length = size ∧ ks.length = size ∧ bytes ≤ 2 ^ 32 then
            match scont H ks s, scont H ks x with
            | some (c1, old, n), some (c2, new, k) =>
              let cl := c1 ++ c2 ++ [xle (xmul (xadd n k) (.i bytes)) (.i (2 ^ 47)), xle (xadd n k) (.i (2 ^ 47))]
              let fresh := fun (cl : List X) (H' : SH) => SRes.one cl (sslice0 H size (xadd n k) (xadd n k)) (H'.push (.row (xcat old new) ks true false))
              let same := SRes.one cl (s0 s) H
              match s with
              | .sl b _ i _ c =>
                let grown := match H.b b with
                  | .row _ _ wr ex | .cells _ _ wr ex => if ex = false then (if wr = true ∧ H.lim ≤ b then fresh (xle (.i 0) c :: cl) (H.upd b .dead) else .stuck) else fresh (xle (.i 0) c :: cl) H
                  | .dead => .stuck
                if (H.b b).es ≠ some size then .stuck else
                if n.same c then sbr (xeq k (.i 0)) same grown else
                sbr (xle (xadd n k) c) (sbr (xeq k (.i 0)) same (match H.b b with
                  | .row r _ true ex => if H.lim ≤ b then .one (cl ++ [xle (.i 0) i, xle (xadd i c) (xlen r)]) (s0 (.sl b size i (xadd n k) c)) (H.upd b (.row (xput r (xadd i n) k new) ks true ex)) else .stuck
                  | _ => .stuck)) grown
              | .cst .nilSlice => sbr (xeq k (.i 0)) same (fresh cl H)
              | _ => .stuck
            | _, _ => .stuck
          else .stuck
        | none => .stuck
      | none => .stuck
    | none => .stuck
  | _, _ => .stuck

theorem aappend_fresh {E : Env} {h h1 : AH} {sTy xTy elem xe : TypeId} {size bytes : Nat} {z : Value} {p q : Option Addr} {n k c kc : Nat} {old new : List Value}
    (hu : E.under sTy = some (.slice elem)) (hx : E.under xTy = some (.slice xe)) (hi : E.info elem = some (size, bytes, z))
    (hc : flat z = true ∧ 0 < size ∧ z.cells.toList.length = size ∧ (n + k) * bytes ≤ 2 ^ 47 ∧ n + k ≤ 2 ^ 47 ∧ bytes ≤ 2 ^ 32)
    (h2 : sliceCells h size (.slice p n c) = some old) (h3 : sliceCells h size (.slice q k kc) = some new) (hone : new.all Value.oneCell' = true)
    (hp : match p with
      | none => k ≠ 0 ∧ h1 = h
      | some a => a.spot = none ∧ ∃ cc wr ex, h.b a.block = .cells cc size wr ex ∧ ¬ n + k ≤ c ∧ (ex = false → wr = true ∧ h.lim ≤ a.block) ∧ h1 = (if ex = false then h.upd a.block .dead else h)) :
    aappend E h sTy xTy (.slice p n c) (.slice q k kc) = some (.slice (some ⟨h.n, 0, none⟩) (n + k) (n + k), h1.push (.cells (old ++ new) size true false)) := by
  unfold aappend
  simp only [hu, hx, hi]
  rw [if_pos hc]
  simp only [h2, h3, hone, if_true]
  cases p with
  | none => simp only at hp; obtain ⟨hk, rfl⟩ := hp; simp [hk]
  | some a =>
    simp only at hp
    obtain ⟨e1, cc, wr, ex, e2, e3, e4, rfl⟩ := hp
    simp only [e1, ne_eq, not_true, if_false, e2, e3]
    rw [if_neg]
    rintro ⟨rfl, hh⟩
    obtain ⟨a1, a2⟩ := e4 rfl
    rcases hh with hh | hh
    · rw [a1] at hh; cases hh
    · omega

theorem aappend_same {E : Env} {h : AH} {sTy xTy elem xe : TypeId} {size bytes : Nat} {z : Value} {p q : Option Addr} {n c kc : Nat} {old new : List Value}
    (hu : E.under sTy = some (.slice elem)) (hx : E.under xTy = some (.slice xe)) (hi : E.info elem = some (size, bytes, z))
    (hc : flat z = true ∧ 0 < size ∧ z.cells.toList.length = size ∧ (n + 0) * bytes ≤ 2 ^ 47 ∧ n + 0 ≤ 2 ^ 47 ∧ bytes ≤ 2 ^ 32)
    (h2 : sliceCells h size (.slice p n c) = some old) (h3 : sliceCells h size (.slice q 0 kc) = some new) (hone : new.all Value.oneCell' = true)
    (hp : match p with
      | none => n = 0 ∧ c = 0
      | some a => a.spot = none ∧ n ≤ c ∧ ∃ cc wr ex, h.b a.block = .cells cc size wr ex) :
    aappend E h sTy xTy (.slice p n c) (.slice q 0 kc) = some (.slice p n c, h) := by
  unfold aappend
  simp only [hu, hx, hi]
  rw [if_pos hc]
  simp only [h2, h3, hone, if_true]
  cases p with
  | none => simp only at hp; obtain ⟨rfl, rfl⟩ := hp; rfl
  | some a =>
    simp only at hp
    obtain ⟨e1, e2, cc, wr, ex, e3⟩ := hp
    simp [e1, e3, e2]

theorem aappend_in {E : Env} {h : AH} {sTy xTy elem xe : TypeId} {size bytes : Nat} {z : Value} {a : Addr} {q : Option Addr} {n k c kc : Nat} {old new cc : List Value} {ex : Bool}
    (hu : E.under sTy = some (.slice elem)) (hx : E.under xTy = some (.slice xe)) (hi : E.info elem = some (size, bytes, z))
    (hc : flat z = true ∧ 0 < size ∧ z.cells.toList.length = size ∧ (n + k) * bytes ≤ 2 ^ 47 ∧ n + k ≤ 2 ^ 47 ∧ bytes ≤ 2 ^ 32)
    (h2 : sliceCells h size (.slice (some a) n c) = some old) (h3 : sliceCells h size (.slice q k kc) = some new) (hone : new.all Value.oneCell' = true) (hk : k ≠ 0) (hlen : new.length = k * size)
    (e1 : a.spot = none) (e2 : n + k ≤ c) (e3 : h.b a.block = .cells cc size true ex) (e4 : a.off + c * size ≤ cc.length) (e5 : h.lim ≤ a.block) :
    aappend E h sTy xTy (.slice (some a) n c) (.slice q k kc) = some (.slice (some a) (n + k) c, h.upd a.block (.cells (writeAt cc (a.off + n * size) new) size true ex)) := by
  unfold aappend
  simp only [hu, hx, hi]
  rw [if_pos hc]
  simp only [h2, h3, hone, if_true]
  simp only [e1, ne_eq, not_true, if_false, e2, e3, hk, if_true, e4, and_self]
  obtain ⟨b, o, sp⟩ := a
  simp only at e1 e3 e4 e5
  subst e1
  have hm := Nat.mul_le_mul_right size e2
  rw [Nat.add_mul] at hm
  rw [add_none]
  unfold AH.setN
  simp only [e3]
  rw [if_pos ⟨by omega, hone, e5⟩]
  rfl

theorem xput_den {g : Sg} {r p k new : X} (hp : 0 ≤ g.I p) (hk : 0 ≤ g.I k) : g.L (xput r p k new) = (g.L r).take (g.N p) ++ g.L new ++ (g.L r).drop (g.N p + g.N k) := by
  have h1 : g.L (xput r p k new) = (((g.L r).drop 0).take (g.N p)) ++ (g.L new ++ (((g.L r).drop (g.N (xadd p k))).take (g.L r).length)) := by
    simp only [xput, Sg.L, Sg.d, X.den, D.toL_l, D.toI_i, Sg.N, Sg.I, Int.toNat_natCast]
    rfl
  rw [h1, N_add hp hk]
  simp [List.take_of_length_le]

theorem encR_put (ks : List K) (r new : List D) (p : Nat) (hp : p + new.length ≤ r.length) :
    writeAt (encR ks r) (p * ks.length) (encR ks new) = encR ks (r.take p ++ new ++ r.drop (p + new.length)) := by
  have hm := Nat.mul_le_mul_right ks.length hp
  rw [Nat.add_mul] at hm
  rw [writeAt_eq _ _ _ (by rw [encR_length, encR_length]; exact hm), encR_take, encR_length, ← Nat.add_mul, encR_drop, encR_append, encR_append]

theorem sappend_sound {E : Env} {g : Sg} {H H' : SH} {h : AH} (hr : SR g H h) {sTy xTy : TypeId} {s x : S0} {cs : List X} {v : S2} (hs : (sappend E H sTy xTy s x).sel g = some (cs, v, H'))
    (hc : ∀ c ∈ cs, g.B c = true) : ∃ h', aappend E h sTy xTy (s.den g) (x.den g) = some (v.den g, h') ∧ SR g H' h' := by
  unfold sappend at hs
  split at hs
  case h_2 => cases hs
  rename_i elem xe hu hx
  split at hs
  case h_2 => cases hs
  rename_i size bytes z hi
  split at hs
  case h_2 => cases hs
  rename_i zl hz
  split at hs
  case h_2 => cases hs
  rename_i ks hks
  split at hs
  case isFalse => cases hs
  rename_i hsz
  obtain ⟨hpos, hzl, rfl, hby⟩ := hsz
  split at hs
  case h_2 => cases hs
  rename_i c1 old n c2 new k hsc hxc
  simp only at hs
  obtain ⟨hfl, hzc⟩ := zcells_den hz g
  -- what all ways out have in common
  let cl := c1 ++ c2 ++ [xle (xmul (xadd n k) (.i bytes)) (.i (2 ^ 47)), xle (xadd n k) (.i (2 ^ 47))]
  have common : (∀ c ∈ cl, g.B c = true) → (∃ p c, s.den g = .slice p (g.N n) c ∧ sliceCells h ks.length (s.den g) = some (encR ks (g.L old))) ∧
      (∃ p c, x.den g = .slice p (g.N k) c ∧ sliceCells h ks.length (x.den g) = some (encR ks (g.L new))) ∧ 0 ≤ g.I n ∧ 0 ≤ g.I k ∧ (g.L new).length = g.N k ∧ (g.L old).length = g.N n ∧
      (flat z = true ∧ 0 < ks.length ∧ z.cells.toList.length = ks.length ∧ (g.N n + g.N k) * bytes ≤ 2 ^ 47 ∧ g.N n + g.N k ≤ 2 ^ 47 ∧ bytes ≤ 2 ^ 32) := fun hcl => by
    obtain ⟨p, c, a1, a2, a3, a4⟩ := scont_sound hr hsc (fun c hm => hcl c (by simp only [cl, List.mem_append]; exact .inl (.inl hm)))
    obtain ⟨q, kc, b1, b2, b3, b4⟩ := scont_sound hr hxc (fun c hm => hcl c (by simp only [cl, List.mem_append]; exact .inl (.inr hm)))
    have d1 := Sg.B_le (hcl (xle (xmul (xadd n k) (.i bytes)) (.i (2 ^ 47))) (by simp [cl]))
    have d2 := Sg.B_le (hcl (xle (xadd n k) (.i (2 ^ 47))) (by simp [cl]))
    have e1 : g.I (xmul (xadd n k) (.i bytes)) = (g.I n + g.I k) * bytes := by simp [Sg.I, Sg.d, X.den]
    rw [e1] at d1
    simp only [Sg.I_add, Sg.I_i] at d1 d2
    refine ⟨⟨p, c, a1, a2⟩, ⟨q, kc, b1, b2⟩, a3, b3, b4, a4, hfl, hpos, by rw [hzc, dens_length, hzl], ?_, ?_, hby⟩
    · have e2 : (((g.N n + g.N k : Nat) : Int)) = g.I n + g.I k := by simp only [Sg.I_toNat]; omega
      have : (((g.N n + g.N k) * bytes : Nat) : Int) ≤ ((2 ^ 47 : Nat) : Int) := by rw [Int.natCast_mul, e2]; exact d1
      exact Int.ofNat_le.1 this
    · simp only [Sg.I_toNat]; omega
  have onen := encR_one ks (g.L new)
  split at hs
  · -- a slice of a row
    rename_i b es i n' c
    split at hs
    · cases hs
    rename_i hes
    have hes : (H.b b).es = some ks.length := Decidable.of_not_not hes
    have hn' : n' = n ∧ es = ks.length ∧ b < H.n := by
      simp only [scont] at hsc
      split at hsc
      · rename_i hb
        refine ⟨?_, hb.1, hb.2⟩
        split at hsc
        · split at hsc
          · simp only [Option.some.injEq, Prod.mk.injEq] at hsc; exact hsc.2.2
          · cases hsc
        · split at hsc
          · split at hsc
            · obtain ⟨y, _, h3⟩ := Option.map_eq_some_iff.1 hsc
              simp only [Prod.mk.injEq] at h3; exact h3.2.2
            · cases hsc
          · cases hsc
        · cases hsc
      · cases hsc
    obtain ⟨rfl, rfl, hb⟩ := hn'
    obtain ⟨hl, cc, wr0, ex0, hd⟩ := SB.es_den (g := g) hes
    obtain ⟨hblk, _⟩ := hr.blk b hb hl
    rw [hd] at hblk
    -- grown
    have grownOk : ∀ {cs' : List X}, (∀ c ∈ cs', g.B c = true) → SRes.sel g (match H.b b with
        | .row _ _ wr ex | .cells _ _ wr ex => if ex = false then (if wr = true ∧ H.lim ≤ b then .one (xle (.i 0) c :: cl) (sslice0 H ks.length (xadd n' k) (xadd n' k)) ((H.upd b .dead).push (.row (xcat old new) ks true false)) else .stuck) else
            .one (xle (.i 0) c :: cl) (sslice0 H ks.length (xadd n' k) (xadd n' k)) (H.push (.row (xcat old new) ks true false))
        | .dead => .stuck) = some (cs', v, H') → (0 ≤ g.I n' → 0 ≤ g.I k → 0 ≤ g.I c → ¬ g.N n' + g.N k ≤ g.N c) →
        ∃ h', aappend E h sTy xTy (S0.den g (.sl b ks.length i n' c)) (x.den g) = some (v.den g, h') ∧ SR g H' h' := by
      intro cs' hcs hsel hfit
      have go : ∀ (wr ex : Bool), (∃ cc, h.b (g.σ b) = .cells cc ks.length wr ex) → ((H.b b).wr = wr) → (if ex = false then (if wr = true ∧ H.lim ≤ b then SRes.one (xle (.i 0) c :: cl) (sslice0 H ks.length (xadd n' k) (xadd n' k)) ((H.upd b .dead).push (.row (xcat old new) ks true false)) else .stuck) else
            SRes.one (xle (.i 0) c :: cl) (sslice0 H ks.length (xadd n' k) (xadd n' k)) (H.push (.row (xcat old new) ks true false))).sel g = some (cs', v, H') →
          ∃ h', aappend E h sTy xTy (S0.den g (.sl b ks.length i n' c)) (x.den g) = some (v.den g, h') ∧ SR g H' h' := by
        intro wr ex ⟨cc, hcc⟩ hwr hsel
        have fin : ∀ {H₁ : SH} {h₁ : AH}, SR g H₁ h₁ → H₁.n = H.n → (ex = false → wr = true ∧ h.lim ≤ g.σ b) → h₁ = (if ex = false then h.upd (g.σ b) .dead else h) →
            SRes.sel g (.one (xle (.i 0) c :: cl) (sslice0 H ks.length (xadd n' k) (xadd n' k)) (H₁.push (.row (xcat old new) ks true false))) = some (cs', v, H') →
            ∃ h', aappend E h sTy xTy (S0.den g (.sl b ks.length i n' c)) (x.den g) = some (v.den g, h') ∧ SR g H' h' := by
          intro H₁ h₁ hr₁ hn hw hh hsel
          have hcl : ∀ c ∈ cl, g.B c = true := by
            simp only [SRes.sel, Option.some.injEq, Prod.mk.injEq] at hsel
            obtain ⟨rfl, _, _⟩ := hsel
            exact fun c hm => hcs c (List.mem_cons_of_mem _ hm)
          have hc0 : 0 ≤ g.I c := by
            simp only [SRes.sel, Option.some.injEq, Prod.mk.injEq] at hsel
            obtain ⟨rfl, _, _⟩ := hsel
            have := Sg.B_le (hcs (xle (.i 0) c) (by simp))
            simpa using this
          obtain ⟨⟨p, c', a1, a2⟩, ⟨q, kc, b1, b2⟩, n0, k0, ln, lo, cond⟩ := common hcl
          simp only [SRes.sel, Option.some.injEq, Prod.mk.injEq] at hsel
          obtain ⟨rfl, rfl, rfl⟩ := hsel
          have hp := hr₁.push (.row (xcat old new) ks true false)
          have e : SB.den g (.row (xcat old new) ks true false) = .cells (encR ks (g.L old) ++ encR ks (g.L new)) ks.length true false := by
            have : g.L (xcat old new) = g.L old ++ g.L new := by simp only [Sg.L, Sg.d, xcat_den]
            simp only [SB.den, this, encR_append]
          rw [e] at hp
          refine ⟨_, ?_, hp⟩
          rw [sslice0_den hr, N_add n0 k0]
          rw [b1] at b2 ⊢
          exact aappend_fresh hu hx hi cond a2 b2 onen ⟨rfl, cc, wr, ex, hcc, hfit n0 k0 hc0, hw, hh⟩
        split at hsel
        · rename_i hex
          split at hsel
          · rename_i hw
            refine fin (hr.upd hb (by rw [hwr]; exact hw.1) .dead) rfl (fun _ => ⟨hw.1, hr.lim b hw.2⟩) ?_ hsel
            rw [if_pos hex]; rfl
          · cases hsel
        · rename_i hex
          exact fin hr rfl (fun h => absurd h hex) (by rw [if_neg hex]) hsel
      split at hsel
      · rename_i wr ex hk
        rw [hk] at hd hes
        simp only [SB.es, Option.some.injEq] at hes
        simp only [SB.den, ABlk.cells.injEq] at hd
        refine go wr ex ⟨cc, ?_⟩ (by rw [hk]; rfl) hsel
        rw [hblk]; simp [hd.2.2.1, hd.2.2.2]
      · rename_i wr ex hk
        rw [hk] at hd hes
        simp only [SB.es, Option.some.injEq] at hes
        simp only [SB.den, ABlk.cells.injEq] at hd
        refine go wr ex ⟨cc, ?_⟩ (by rw [hk]; rfl) hsel
        rw [hblk]; simp [hd.2.2.1, hd.2.2.2]
      · cases hsel
    -- nothing new
    have sameOk : SRes.sel g (.one cl (s0 (.sl b ks.length i n' c)) H) = some (cs, v, H') → g.I k = 0 → g.N n' ≤ g.N c →
        ∃ h', aappend E h sTy xTy (S0.den g (.sl b ks.length i n' c)) (x.den g) = some (v.den g, h') ∧ SR g H' h' := by
      intro he hk0 hnc
      simp only [SRes.sel, Option.some.injEq, Prod.mk.injEq] at he
      obtain ⟨rfl, rfl, rfl⟩ := he
      obtain ⟨⟨p, c', a1, a2⟩, ⟨q, kc, b1, b2⟩, n0, k0, ln, lo, cond⟩ := common hc
      have kn : g.N k = 0 := by simp only [Sg.I_toNat]; omega
      rw [b1, kn] at b2
      rw [kn] at cond b1
      rw [b1]
      exact ⟨h, aappend_same hu hx hi cond a2 b2 onen ⟨rfl, hnc, cc, wr0, ex0, hblk⟩, hr⟩
    split at hs
    · -- no room
      rename_i hsame
      have hnc := X.same_eq hsame
      subst hnc
      rw [sbr_sel] at hs
      split at hs
      · rename_i hk0
        exact sameOk hs (by simpa [Sg.B, Sg.d, Sg.I, X.den] using hk0) (Nat.le_refl _)
      · rename_i hk0
        have hk0 : g.I k ≠ 0 := by simpa [Sg.B, Sg.d, Sg.I, X.den] using hk0
        exact grownOk hc hs (fun _ _ _ => by simp only [Sg.I_toNat]; omega)
    · -- room, perhaps
      rw [sbr_sel] at hs
      split at hs
      · rename_i hfit
        have hfit := Sg.B_le hfit
        simp only [Sg.I_add] at hfit
        rw [sbr_sel] at hs
        split at hs
        · rename_i hk0
          have hk0 : g.I k = 0 := by simpa [Sg.B, Sg.d, Sg.I, X.den] using hk0
          exact sameOk hs hk0 (by simp only [Sg.I_toNat]; omega)
        · rename_i hk0
          have hk0 : g.I k ≠ 0 := by simpa [Sg.B, Sg.d, Sg.I, X.den] using hk0
          split at hs
          · rename_i r ks' ex hk
            split at hs
            · rename_i hlim
              simp only [SRes.sel, Option.some.injEq, Prod.mk.injEq] at hs
              obtain ⟨rfl, rfl, rfl⟩ := hs
              obtain ⟨⟨p, c', a1, a2⟩, ⟨q, kc, b1, b2⟩, n0, k0, ln, lo, cond⟩ := common (fun c hm => hc c (List.mem_append_left _ hm))
              have i0 := Sg.B_le (hc (xle (.i 0) i) (by simp))
              have ic := Sg.B_le (hc (xle (xadd i c) (xlen r)) (by simp))
              have e3 : g.I (xlen r) = (g.L r).length := by simp only [Sg.I, Sg.d, xlen_den, D.toI_i, Sg.L]
              simp only [Sg.I_i, Sg.I_add, e3] at i0 ic
              rw [hk] at hes
              simp only [SB.es, Option.some.injEq] at hes
              have hkb : h.b (g.σ b) = .cells (encR ks' (g.L r)) ks.length true ex := by
                have := (hr.blk b hb hl).1
                rw [hk] at this
                rw [this, SB.den, hes]
              have hks : ks' = ks := by
                simp only [scont, hb, and_self, if_true, hk] at hsc
                split at hsc
                · assumption
                · cases hsc
              subst hks
              rw [b1] at b2 ⊢
              have hic : g.N n' + g.N k ≤ g.N c := by simp only [Sg.I_toNat]; omega
              have hroom : g.N i + g.N c ≤ (g.L r).length := by simp only [Sg.I_toNat]; omega
              have hm := Nat.mul_le_mul_right ks'.length hroom
              rw [Nat.add_mul] at hm
              have hup := hr.upd hb (by rw [hk]; rfl) (.row (xput r (xadd i n') k new) ks' true ex)
              refine ⟨_, ?_, hup⟩
              have := aappend_in (E := E) (a := ⟨g.σ b, g.N i * ks'.length, none⟩) hu hx hi cond a2 b2 onen (by simp only [Sg.I_toNat]; omega) (by rw [encR_length, ln]) rfl hic hkb (by rw [encR_length]; exact hm) (hr.lim b hlim)
              simp only [S0.den] at this ⊢
              rw [this]
              have e5 : SB.den g (.row (xput r (xadd i n') k new) ks' true ex) = .cells (writeAt (encR ks' (g.L r)) (g.N i * ks'.length + g.N n' * ks'.length) (encR ks' (g.L new))) ks'.length true ex := by
                simp only [SB.den]
                rw [xput_den (by simp only [Sg.I_add]; omega) k0, N_add i0 n0, ← ln, ← encR_put _ _ _ _ (by rw [ln]; omega), Nat.add_mul]
              rw [e5]
              simp only [s0, S2.den, S1.den, S0.den, N_add n0 k0]
            · cases hs
          · cases hs
      · rename_i hfit
        have hfit : ¬ (g.I n' + g.I k ≤ g.I c) := fun hle => hfit (by simpa [Sg.B, Sg.d, Sg.I] using hle)
        exact grownOk hc hs (fun _ _ _ => by simp only [Sg.I_toNat]; omega)
  · -- nil
    have hn : c1 = [] ∧ old = .nil ∧ n = .i 0 := by
      simp only [scont, Option.some.injEq, Prod.mk.injEq] at hsc
      exact ⟨hsc.1.symm, hsc.2.1.symm, hsc.2.2.symm⟩
    obtain ⟨rfl, rfl, rfl⟩ := hn
    rw [sbr_sel] at hs
    split at hs
    · rename_i hk0
      have hk0 : g.I k = 0 := by simpa [Sg.B, Sg.d, Sg.I, X.den] using hk0
      simp only [SRes.sel, Option.some.injEq, Prod.mk.injEq] at hs
      obtain ⟨rfl, rfl, rfl⟩ := hs
      obtain ⟨⟨p, c', a1, a2⟩, ⟨q, kc, b1, b2⟩, n0, k0, ln, lo, cond⟩ := common hc
      have kn : g.N k = 0 := by simp only [Sg.I_toNat]; omega
      rw [b1, kn] at b2
      rw [kn] at cond b1
      rw [b1]
      exact ⟨h, aappend_same hu hx hi cond a2 b2 onen ⟨rfl, rfl⟩, hr⟩
    · rename_i hk0
      have hk0 : g.I k ≠ 0 := by simpa [Sg.B, Sg.d, Sg.I, X.den] using hk0
      simp only [SRes.sel, Option.some.injEq, Prod.mk.injEq] at hs
      obtain ⟨rfl, rfl, rfl⟩ := hs
      obtain ⟨⟨p, c', a1, a2⟩, ⟨q, kc, b1, b2⟩, n0, k0, ln, lo, cond⟩ := common hc
      have hp := hr.push (.row (xcat .nil new) ks true false)
      refine ⟨_, ?_, hp⟩
      have e : SB.den g (.row (xcat .nil new) ks true false) = .cells (encR ks (g.L .nil) ++ encR ks (g.L new)) ks.length true false := by
        have : g.L (xcat .nil new) = g.L .nil ++ g.L new := by simp only [Sg.L, Sg.d, xcat_den]
        simp only [SB.den, this, encR_append]
      rw [e, sslice0_den hr, N_add n0 k0]
      rw [b1] at b2 ⊢
      exact aappend_fresh hu hx hi cond a2 b2 onen ⟨by simp only [Sg.I_toNat]; omega, rfl⟩
  · cases hs

end Go.AM
