/- A part of the proof: see the law's own text. Conditions: none. -/
import Derived.Test.YtelcedajmnblbaaSpan3
set_option linter.unusedVariables false
set_option linter.unusedSimpArgs false
namespace Sn
open Go Go.AM Go.Proofs
/-- an element of a row -/
def nth (l : List Sp) (i : Int) : Sp := (l[i.toNat]?).getD (0, 0)
theorem atD_map (l : List Sp) (i : Int) : (fldD (atD (.l (l.map spD)) i) 0).toI = (nth l i).1 ∧ (fldD (atD (.l (l.map spD)) i) 1).toI = (nth l i).2 := by
  unfold atD nth
  simp only [D.toL_l, List.getElem?_map]
  cases l[i.toNat]? <;> exact ⟨rfl, rfl⟩
theorem at_1 (l : List Sp) (i : Int) : (fldD (atD (.l (l.map spD)) i) 0).toI = (nth l i).1 := (atD_map l i).1
theorem at_2 (l : List Sp) (i : Int) : (fldD (atD (.l (l.map spD)) i) 1).toI = (nth l i).2 := (atD_map l i).2
theorem ov (ρ d : Nat → D) (lo cnt i : Nat) : overR ρ lo cnt d i = if lo ≤ i ∧ i < lo + cnt then d i else ρ i := rfl
theorem su (C : FuncId → Option Con) (ρ : Nat → D) (θ : List (Nat × X)) (i : Nat) : subR C ρ θ i = match θ.lookup i with | some x => x.den C ρ | none => ρ i := rfl
theorem nth_nat (l : List Sp) (k : Nat) (h : k < l.length) : nth l k = l[k] := by simp [nth, h]
theorem fldD_def (d : D) (i : Nat) : fldD d i = (d.toL[i]?).getD default := rfl
abbrev SameJ (p q : List Sp) (i : Int) : Prop := 0 ≤ i ∧ i ≤ p.length ∧ p.length = q.length ∧ p.take i.toNat = q.take i.toNat
theorem same_step {p q : List Sp} {i : Int} (h0 : 0 ≤ i) (hl : i < p.length) (he : p.length = q.length) (ht : p.take i.toNat = q.take i.toNat) (h1 : (nth p i).1 = (nth q i).1) (h2 : (nth p i).2 = (nth q i).2) : p.take (i + 1).toNat = q.take (i + 1).toNat := by
  obtain ⟨k, rfl⟩ := Int.eq_ofNat_of_zero_le h0
  have hk : k < p.length := by omega
  have hk' : k < q.length := by omega
  rw [nth_nat p k hk, nth_nat q k hk'] at h1 h2
  have : ((k : Int) + 1).toNat = k + 1 := by omega
  rw [this, List.take_succ_eq_append_getElem hk, List.take_succ_eq_append_getElem hk', Prod.ext h1 h2]
  have e : ((k : Int)).toNat = k := by omega
  rw [e] at ht
  rw [ht]
theorem same_stepw {p q : List Sp} {i : Int} (hJ : SameJ p q i) (hl : i < p.length) (hB : p.length ≤ 1152921504606846976) (h : (nth p i).1 = (nth q i).1 ∧ (nth p i).2 = (nth q i).2) :
    p.take ((i + 1 + 9223372036854775808) % 18446744073709551616 - 9223372036854775808).toNat = q.take ((i + 1 + 9223372036854775808) % 18446744073709551616 - 9223372036854775808).toNat := by
  rw [show (i + 1 + 9223372036854775808) % 18446744073709551616 - 9223372036854775808 = i + 1 by omega]
  exact same_step hJ.1 hl hJ.2.2.1 hJ.2.2.2 h.1 h.2
theorem same_nej {p q : List Sp} {i : Int} (h : ¬(nth p i).1 = (nth q i).1 ∨ ¬(nth p i).2 = (nth q i).2) : false = decide (p = q) := by
  symm
  rw [decide_eq_false_iff_not]
  rintro rfl
  simp at h
theorem same_endj {p q : List Sp} {i : Int} (hJ : SameJ p q i) (hl : (p.length : Int) ≤ i) : true = decide (p = q) := by
  symm
  rw [decide_eq_true_eq]
  have ht := hJ.2.2.2
  have := hJ.2.2.1
  rw [List.take_of_length_le (by omega), List.take_of_length_le (by omega)] at ht
  exact ht
theorem same_len {p q : List Sp} (h : ¬ (p.length : Int) = q.length) : false = decide (p = q) := by
  symm
  rw [decide_eq_false_iff_not]
  rintro rfl
  exact h rfl
theorem same_ne {p q : List Sp} {i : Int} (h0 : 0 ≤ i) (hl : i < p.length) (h : ¬((nth p i).1 = (nth q i).1 ∧ (nth p i).2 = (nth q i).2)) : p ≠ q := by
  rintro rfl
  exact h ⟨rfl, rfl⟩
theorem same_end {p q : List Sp} {i : Int} (hl : ¬ i < p.length) (he : p.length = q.length) (ht : p.take i.toNat = q.take i.toNat) : p = q := by
  rw [List.take_of_length_le (by omega), List.take_of_length_le (by omega)] at ht
  exact ht
def sameI (ds : List D) (_ : Nat) (ρ : Nat → D) : Prop := SameJ (pairs (ds.headD default)) (pairs (ds.tail.headD default)) (ρ 2).toI
def sameM (ds : List D) (_ : Nat) (ρ : Nat → D) : Nat := ((pairs (ds.headD default)).length - (ρ 2).toI).toNat
theorem ov2_1_0 (ρ d : Nat → D) : overR ρ 2 1 d 0 = ρ 0 := rfl
theorem ov2_1_1 (ρ d : Nat → D) : overR ρ 2 1 d 1 = ρ 1 := rfl
theorem ov2_1_2 (ρ d : Nat → D) : overR ρ 2 1 d 2 = d 2 := rfl
theorem su2_1_2_2 (C : FuncId → Option Con) (ρ : Nat → D) (w2 : X) : subR C ρ [(2, w2)] 2 = w2.den C ρ := rfl
def sSame : Tree := (.br (.eq (.len (.v 0)) (.len (.v 1)))
 (.loop 2 2 1 [(2, (.i 0))]
  (.br (.lt (.v 2) (.len (.v 0)))
  (.must (.le (.i 0) (.v 2))
   (.must (.lt (.v 2) (.len (.v 1)))
   (.br (.and (.eq (.get (.at (.v 0) (.v 2)) 0) (.get (.at (.v 1) (.v 2)) 0)) (.eq (.get (.at (.v 0) (.v 2)) 1) (.get (.at (.v 1) (.v 2)) 1)))
   (.again 2 2 1 [(2, (.wrap .i64 (.add (.v 2) (.i 1))))])
   (.ret (.cons (.b false) .nil)))))
  (.ret (.cons (.b true) .nil))))
 (.ret (.cons (.b false) .nil)))
set_option maxRecDepth 100000 in
set_option maxHeartbeats 40000000 in
theorem k18 : ConsOk Try.prog ((18, cSame) :: l19) := by
  refine ConsOk.ofC follows names k19 (by kernel_rfl) (fun f _ => if f = 18 then some { cnt := 1, slots := [(5, .var i64 0)] } else none) 100 (T := sSame) (by kernel_rfl) (sameI) (sameM) fun ds hp hn => ?_
  unfold sSame
  have hn2 := hn
  simp only [cSame, cLaw, norms, norm_k, norm_agg, row_norm, normL, normK] at hn2
  obtain ⟨p0, p1, rfl⟩ : ∃ (p0 : List Sp) (p1 : List Sp), ds = [.l (p0.map spD), .l (p1.map spD)] := ⟨_, _, hn2.symm⟩
  have hB : shortB _ = true := hp
  simp only [shortB, List.headD_cons, pairs_map, decide_eq_true_eq] at hB
  simp only [VC_br, VC_ret, VC_must, VC_loop, VC_again, vcJ_C, vcJ_R, vcJ_J, vcJ_ms, upN_eq, BT_b, BF_b, BT_lt, BF_lt, BT_le, BF_le, BT_eq, BF_eq, BTi_eqb, BFi_eqb, BT_not, BF_not, BT_and, BF_and, B_get, B_v, B_co, I_i, I_v, I_get, I_wrap, I_add, I_sub, I_mul, I_ite, toI_ite, I_len, I_co, den_v, den_i, den_get, den_at, den_cons, den_nil, den_b, den_co, den_eq, den_le, den_lt, den_wrap, den_add, den_sub, den_mul, den_len, norm_k, norm_agg, normK, normL, D.toB_b, D.toI_i, D.toL_l, norms, List.headD_cons, List.tail_cons, wrap_i64, ρof_get, fldD_0, fldD_s, fld_def, List.cons.injEq, D.b.injEq, D.i.injEq, D.l.injEq, and_true, true_and, true_or, or_true, false_or, or_false, false_and, and_false, Bool.true_eq_false, Bool.false_eq_true, false_implies, true_implies, implies_true, not_true_eq_false, not_false_eq_true, ne_eq, mayS_T, mayS_F, sp_l, spD_def, at1, at2,   cSame, pairs_map, at_1, at_2, List.length_map, decide_eq_true_eq, ov2_1_0, ov2_1_1, ov2_1_2, su2_1_2_2, sameI, sameM, SameJ]
  repeat' (first | (with_reducible apply And.intro) | intro _)
  all_goals first
    | omega
    | exact same_stepw (by assumption) (by assumption) (by assumption) (by assumption)
    | exact same_nej (by assumption)
    | exact same_endj (by assumption) (by assumption)
    | exact same_len (by assumption)
    | rfl
end Sn
