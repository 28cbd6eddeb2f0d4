/-
  AM, part 25: contracts of functions, and calls by them.
-/
import Derived.Test.YtelcedajmnblbaaAm24
set_option linter.unusedVariables false
set_option linter.unusedSimpArgs false
namespace Go.AM

/-! ### in the abstract machine -/
def decK : K → Value → Option D
  | .int k, .int k' n => if k = k' then some (.i n) else none
  | .bool, .bool b => some (.b b)
  | .str, .string s => some (.s s)
  | _, _ => none
def decL : List K → List Value → Option (List D)
  | [], [] => some []
  | k :: ks, v :: vs => match decK k v, decL ks vs with
    | some d, some ds => some (d :: ds)
    | _, _ => none
  | _, _ => none
def decR (ks : List K) : Nat → List Value → Option (List D)
  | 0, [] => some []
  | n + 1, l => match decL ks (l.take ks.length), decR ks n (l.drop ks.length) with
    | some e, some r => some (.l e :: r)
    | _, _ => none
  | _, _ => none
/-- a row of elements of that many cells -/
def rowEs (h : AH) (n : Nat) : Option Addr → Bool
  | none => true
  | some a => a.spot.isNone && (match h.b a.block with
    | .cells _ es _ _ => es == n
    | _ => false)
def Sh.dec (h : AH) : Sh → Value → Option D
  | .k kd, v => decK kd v
  | .agg ks, .agg cs => (decL ks cs.toList).map .l
  | .row ks, .slice p n c => if 0 < ks.length ∧ rowEs h ks.length p = true then (sliceCells h ks.length (.slice p n c)).bind fun l => (decR ks n l).map .l else none
  | _, _ => none
def decs (h : AH) : List Sh → List Value → Option (List D)
  | [], [] => some []
  | s :: ss, v :: vs => match s.dec h v, decs h ss vs with
    | some d, some ds => some (d :: ds)
    | _, _ => none
  | _, _ => none

def Sh.enc (h : AH) : Sh → D → Value × AH
  | .k kd, d => (AM.enc kd d, h)
  | .agg ks, d => (.agg (encL ks d.toL).toArray, h)
  | .row ks, d => (.slice (some ⟨h.n, 0, none⟩) d.toL.length d.toL.length, h.push (.cells (encR ks d.toL) ks.length true false))
def encs : List Sh → List D → AH → List Value × AH
  | [], _, h => ([], h)
  | s :: ss, ds, h => let r := s.enc h (ds.headD default); let q := encs ss ds.tail r.2; (r.1 :: q.1, q.2)

def tup1 : List Value → Value
  | [v] => v
  | vs => .tuple vs.toArray

def specOf (c : Con) : Spec := fun args h =>
  match decs h c.ins args with
  | some ds => if c.ok ds = true then let r := encs c.outs (c.f ds) h; some (tup1 r.1, r.2) else none
  | none => none

theorem Kept.refl' (h : AH) : Kept h h := ⟨Nat.le_refl _, rfl, fun _ _ _ => rfl⟩
theorem encs_kept : ∀ (ss : List Sh) (ds : List D) (h : AH), Kept h (encs ss ds h).2
  | [], _, h => Kept.refl' h
  | s :: ss, ds, h => by
    have ih := encs_kept ss ds.tail (s.enc h (ds.headD default)).2
    have h1 : Kept h (s.enc h (ds.headD default)).2 := by
      cases s with
      | k kd => exact Kept.refl' h
      | agg ks => exact Kept.refl' h
      | row ks => exact ⟨Nat.le_succ _, rfl, fun b hb _ => by simp [Sh.enc, AH.push, Nat.ne_of_lt hb]⟩
    exact ⟨Nat.le_trans h1.n_le ih.n_le, ih.lim.trans h1.lim, fun b hb hl => (ih.old b (Nat.lt_of_lt_of_le hb h1.n_le) (by rw [h1.lim]; exact hl)).trans (h1.old b hb hl)⟩

theorem specOf_kept {c : Con} {args : List Value} {h : AH} {v : Value} {h' : AH} (hs : specOf c args h = some (v, h')) : Kept h h' := by
  unfold specOf at hs
  split at hs
  · split at hs
    · simp only [Option.some.injEq, Prod.mk.injEq] at hs
      obtain ⟨_, rfl⟩ := hs
      exact encs_kept _ _ _
    · cases hs
  · cases hs

/-! ### what is read back is what was written, with its types -/
theorem decK_enc (k : K) (d : D) : decK k (enc k d) = some (normK k d) := by cases k <;> simp [decK, enc, normK]
theorem decL_enc : ∀ (ks : List K) (ds : List D), decL ks (encL ks ds) = some (normL ks ds)
  | [], _ => rfl
  | k :: ks, ds => by simp [encL, decL, decK_enc, decL_enc ks, normL]
theorem decR_enc (ks : List K) : ∀ (rs : List D), decR ks rs.length (encR ks rs) = some (rs.map fun e => .l (normL ks e.toL))
  | [] => rfl
  | r :: rs => by
    have h1 : (encR ks (r :: rs)).take ks.length = encL ks r.toL := by rw [encR_cons, List.take_append_of_le_length (by rw [encL_length]; omega), List.take_of_length_le (by rw [encL_length]; omega)]
    have h2 : (encR ks (r :: rs)).drop ks.length = encR ks rs := by
      have := encL_length ks r.toL
      rw [encR_cons, List.drop_append, this, Nat.sub_self, List.drop_zero, List.drop_of_length_le (by omega), List.nil_append]
    simp only [List.length_cons, decR, h1, h2, decL_enc, decR_enc ks rs, List.map_cons]

/-! ### in the symbolic machine -/
def xco (s : Sh) (x : X) : X :=
  match s, x with
  | .k (.int _), .i n => .i n
  | .k (.int _), .wrap k x => .wrap k x
  | .k (.int _), .len x => .len x
  | .k (.int _), .co (.k (.int k)) x => .co (.k (.int k)) x
  | .k .bool, .b n => .b n
  | .k .str, .s n => .s n
  | s, x => .co s x
theorem xco_den {C : FuncId → Option Con} {ρ : Nat → D} (s : Sh) (x : X) : (xco s x).den C ρ = s.norm (x.den C ρ) := by
  unfold xco
  split <;> rfl

def scall1 (H : SH) : Sh → S2 → Option (List X × X)
  | .k kd, .one (.one (.sc k' x)) => if kd = k' then some ([], xco (.k kd) x) else none
  | .agg ks, .one (.agg l) => (unk ks l).map fun x => ([], .co (.agg ks) x)
  | .row ks, .one (.one s) => if 0 < ks.length then (scont H ks s).map fun r => (r.1, .co (.row ks) r.2.1) else none
  | _, _ => none

theorem scont_es {g : Sg} {H : SH} {h : AH} (hr : SR g H h) {ks : List K} {s : S0} {cs : List X} {x n : X} (hs : scont H ks s = some (cs, x, n)) {p : Option Addr} {m c : Nat} (he : s.den g = .slice p m c) : rowEs h ks.length p = true := by
  unfold scont at hs
  split at hs
  · cases he; rfl
  · rename_i b es i n' cap
    cases he
    split at hs
    · rename_i hb
      obtain ⟨rfl, hb⟩ := hb
      split at hs
      · rename_i r ks' wr ex hk
        split at hs
        · rename_i hks
          subst hks
          obtain ⟨h1, _⟩ := hr.blk b hb (by rw [hk]; rfl)
          rw [hk] at h1
          simp [rowEs, h1, SB.den]
        · cases hs
      · rename_i c es' wr ex hk
        split at hs
        · split at hs
          · rename_i hz
            obtain ⟨h1, _⟩ := hr.blk b hb (by rw [hk]; rfl)
            rw [hk, hz.1] at h1
            simp [rowEs, h1, SB.den]
          · cases hs
        · cases hs
      · cases hs
    · cases hs
  · cases hs

theorem scall1_sound {g : Sg} {H : SH} {h : AH} (hr : SR g H h) {s : Sh} {v : S2} {cs : List X} {x : X} (hs : scall1 H s v = some (cs, x)) (hc : ∀ c ∈ cs, g.B c = true) : s.dec h (v.den g) = some (g.d x) := by
  unfold scall1 at hs
  split at hs
  · rename_i kd k' y
    split at hs
    · rename_i hk
      subst hk
      simp only [Option.some.injEq, Prod.mk.injEq] at hs
      obtain ⟨rfl, rfl⟩ := hs
      simp only [Sh.dec, S2.den, S1.den, S0.den, decK_enc, Sg.d, xco_den, Sh.norm]
    · cases hs
  · rename_i ks l
    obtain ⟨y, h1, h2⟩ := Option.map_eq_some_iff.1 hs
    simp only [Prod.mk.injEq] at h2
    obtain ⟨rfl, rfl⟩ := h2
    obtain ⟨a1, a2, a3⟩ := unk_den g h1
    simp only [Sh.dec, S2.den, S1.den]
    rw [← a1, decL_enc]
    rfl
  · rename_i ks s
    split at hs
    · rename_i hpos
      obtain ⟨⟨cs', y, n⟩, h1, h2⟩ := Option.map_eq_some_iff.1 hs
      simp only [Prod.mk.injEq] at h2
      obtain ⟨rfl, rfl⟩ := h2
      obtain ⟨p, c, a1, a2, a3, a4⟩ := scont_sound hr h1 hc
      simp only [S2.den, S1.den]
      have hes := scont_es hr h1 a1
      rw [a1, ← a4] at a2
      rw [a1, ← a4]
      simp only [Sh.dec, hpos, hes, and_self, if_true, a2, Option.bind_some, decR_enc]
      rfl
    · cases hs
  · cases hs

def scalls (H : SH) : List Sh → List S2 → Option (List X × X)
  | [], [] => some ([], .nil)
  | s :: ss, v :: vs => match scall1 H s v, scalls H ss vs with
    | some (c1, x), some (c2, r) => some (c1 ++ c2, .cons x r)
    | _, _ => none
  | _, _ => none

theorem scalls_sound {g : Sg} {H : SH} {h : AH} (hr : SR g H h) : ∀ {ss : List Sh} {vs : List S2} {cs : List X} {x : X}, scalls H ss vs = some (cs, x) → (∀ c ∈ cs, g.B c = true) →
    decs h ss (vs.map (S2.den g)) = some (g.L x)
  | [], [], cs, x, hs, hc => by simp only [scalls, Option.some.injEq, Prod.mk.injEq] at hs; obtain ⟨_, rfl⟩ := hs; rfl
  | s :: ss, v :: vs, cs, x, hs, hc => by
    simp only [scalls] at hs
    split at hs
    · rename_i c1 y c2 r h1 h2
      simp only [Option.some.injEq, Prod.mk.injEq] at hs
      obtain ⟨rfl, rfl⟩ := hs
      have e1 := scall1_sound hr h1 (fun c hm => hc c (List.mem_append_left _ hm))
      have e2 := scalls_sound hr h2 (fun c hm => hc c (List.mem_append_right _ hm))
      simp only [List.map_cons, decs, e1, e2]
      rfl
    · cases hs
  | [], _ :: _, _, _, hs, _ => by cases hs
  | _ :: _, [], _, _, hs, _ => by cases hs

def sout1 (H : SH) : Sh → X → S1 × SH
  | .k kd, x => (.one (.sc kd x), H)
  | .agg ks, x => (.agg (comps x ks 0), H)
  | .row ks, x => (.one (.sl H.n ks.length (.i 0) (xlen x) (xlen x)), H.push (.row x ks true false))

theorem sout1_sound {g : Sg} {H : SH} {h : AH} (hr : SR g H h) (s : Sh) (x : X) : (s.enc h (g.d x)).1 = (sout1 H s x).1.den g ∧ SR g (sout1 H s x).2 (s.enc h (g.d x)).2 := by
  cases s with
  | k kd => exact ⟨rfl, hr⟩
  | agg ks =>
    refine ⟨?_, hr⟩
    simp only [Sh.enc, sout1, S1.den, comps_den, List.drop_zero]
    rfl
  | row ks =>
    have hn := hr.next 0
    simp only [Nat.add_zero] at hn
    refine ⟨?_, hr.push _⟩
    simp only [Sh.enc, sout1, S1.den, S0.den, hn, Sg.I_toNat, Sg.I_i]
    have : g.I (xlen x) = (g.L x).length := by simp only [Sg.I, Sg.d, xlen_den, D.toI_i, Sg.L]
    rw [this]
    simp [Sg.L]

def souts (H : SH) (r : X) : List Sh → Nat → List S1 × SH
  | [], _ => ([], H)
  | s :: ss, i => let a := sout1 H s (xget r i); let q := souts a.2 r ss (i + 1); (a.1 :: q.1, q.2)

theorem souts_sound {g : Sg} {r : X} : ∀ (ss : List Sh) (i : Nat) {H : SH} {h : AH}, SR g H h → (encs ss ((g.L r).drop i) h).1 = (souts H r ss i).1.map (S1.den g) ∧ SR g (souts H r ss i).2 (encs ss ((g.L r).drop i) h).2
  | [], _, H, h, hr => ⟨rfl, hr⟩
  | s :: ss, i, H, h, hr => by
    have e : ((g.L r).drop i).headD default = g.d (xget r i) := by
      rw [List.headD_eq_head?_getD, List.head?_drop]
      simp only [Sg.d, xget_den, Sg.L]
    obtain ⟨a1, a2⟩ := sout1_sound hr s (xget r i)
    have ih := souts_sound (g := g) (r := r) ss (i + 1) a2
    simp only [encs, souts, e, List.tail_drop]
    exact ⟨by rw [List.map_cons, a1, ih.1], ih.2⟩

def stup1 : List S1 → S2
  | [v] => .one v
  | vs => .tup vs
theorem stup1_den {g : Sg} (l : List S1) : (stup1 l).den g = tup1 (l.map (S1.den g)) := by
  match l with
  | [] => rfl
  | [v] => rfl
  | v :: w :: l => rfl

def scall (c : Con) (H : SH) (f : FuncId) (args : List S2) : SRes :=
  match scalls H c.ins args with
  | some (cs, x) => let r := souts H (.call f x) c.outs 0; .one (if c.tot then cs else cs ++ [.pre f x]) (stup1 r.1) r.2
  | none => .stuck

theorem scall_sound {g : Sg} {H H' : SH} {h : AH} (hr : SR g H h) {c : Con} {f : FuncId} (hC : g.C f = some c) {args : List S2} {cs : List X} {v : S2} (hs : (scall c H f args).sel g = some (cs, v, H')) (hc : ∀ c ∈ cs, g.B c = true) :
    ∃ h', specOf c (args.map (S2.den g)) h = some (v.den g, h') ∧ SR g H' h' := by
  unfold scall at hs
  split at hs
  · rename_i cs' x h1
    simp only [SRes.sel, Option.some.injEq, Prod.mk.injEq] at hs
    obtain ⟨rfl, rfl, rfl⟩ := hs
    have e1 := scalls_sound hr h1 (fun c' hm => hc c' (by split <;> simp [hm]))
    have hp' : c.ok (g.L x) = true := by
      cases ht : c.tot with
      | true => simp [Con.ok, ht]
      | false =>
        have hp := hc (.pre f x) (by simp [ht])
        simp only [Sg.B, Sg.d, X.den, hC, D.toB_b] at hp
        simp only [Con.ok, Bool.or_eq_true]
        exact .inr hp
    have hL : g.L (.call f x) = c.f (g.L x) := by simp only [Sg.L, Sg.d, X.den, hC, D.toL_l]
    obtain ⟨a1, a2⟩ := souts_sound (g := g) (r := .call f x) c.outs 0 hr
    rw [List.drop_zero, hL] at a1 a2
    refine ⟨_, ?_, a2⟩
    unfold specOf
    simp only [e1, hp', if_true, a1, stup1_den]
  · cases hs

end Go.AM
