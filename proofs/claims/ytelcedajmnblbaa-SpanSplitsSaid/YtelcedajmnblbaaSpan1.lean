/- A part of the proof: see the law's own text. Conditions: none. -/
import Derived.Test.YtelcedajmnblbaaSpan0
set_option linter.unusedVariables false
set_option linter.unusedSimpArgs false
namespace Sn
open Go Go.AM Go.Proofs
set_option maxRecDepth 100000 in
theorem k12 : ConsOk Try.prog [(12, cTrue)] := ConsOk.closed follows names (ConsOk.nil _) 200 (by kernel_rfl)
def sMay : Tree := (.br (.le (.i 0) (.get (.v 0) 0))
 (.br (.le (.get (.v 0) 0) (.i 1099511627776))
  (.br (.le (.i 0) (.get (.v 0) 1))
   (.ret (.cons (.co (.k .bool) (.le (.get (.v 0) 1) (.wrap .i64 (.sub (.i 1099511627776) (.get (.v 0) 0))))) .nil))
   (.ret (.cons (.b false) .nil)))
  (.ret (.cons (.b false) .nil)))
 (.ret (.cons (.b false) .nil)))
set_option maxRecDepth 100000 in
set_option maxHeartbeats 40000000 in
theorem k13 : ConsOk Try.prog ((13, cMay) :: [(12, cTrue)]) := by
  refine ConsOk.ofC follows names k12 (by kernel_rfl) (fun _ _ => none) 100 (T := sMay) (by kernel_rfl) (fun _ _ _ => False) (fun _ _ _ => 0) fun ds hp hn => ?_
  unfold sMay
  have hn2 := hn
  simp only [cMay, cLaw, norms, norm_k, norm_agg, row_norm, normL, normK] at hn2
  obtain ⟨a0, n0, rfl⟩ : ∃ (a0 : Int) (n0 : Int), ds = [.l [.i a0, .i n0]] := ⟨_, _, hn2.symm⟩
  simp only [VC_br, VC_ret, VC_must, VC_loop, VC_again, vcJ_C, vcJ_R, vcJ_J, vcJ_ms, upN_eq, BT_b, BF_b, BT_lt, BF_lt, BT_le, BF_le, BT_eq, BF_eq, BTi_eqb, BFi_eqb, BT_not, BF_not, BT_and, BF_and, B_get, B_v, B_co, I_i, I_v, I_get, I_wrap, I_add, I_sub, I_mul, I_ite, toI_ite, I_len, I_co, den_v, den_i, den_get, den_at, den_cons, den_nil, den_b, den_co, den_eq, den_le, den_lt, den_wrap, den_add, den_sub, den_mul, den_len, norm_k, norm_agg, normK, normL, D.toB_b, D.toI_i, D.toL_l, norms, List.headD_cons, List.tail_cons, wrap_i64, ρof_get, fldD_0, fldD_s, fld_def, List.cons.injEq, D.b.injEq, D.i.injEq, D.l.injEq, and_true, true_and, true_or, or_true, false_or, or_false, false_and, and_false, Bool.true_eq_false, Bool.false_eq_true, false_implies, true_implies, implies_true, not_true_eq_false, not_false_eq_true, ne_eq, mayS_T, mayS_F, sp_l, spD_def, at1, at2,   cMay, Bool.false_eq, Bool.true_eq]
  repeat' (first | (with_reducible apply And.intro) | intro _)
  all_goals first | omega | (rw [Bool.eq_iff_iff]; simp only [BT_le, BT_lt, BT_eq, I_i, I_get, I_wrap, I_sub, den_v, mayS_T, wrap_i64, ρof_get, fldD_0, fldD_s, fld_def, D.toI_i, sp_l]; omega)
abbrev l13 : Cons := [(13, cMay), (12, cTrue)]
def sRMay : Tree := (.br (.le (.i 0) (.get (.v 0) 0))
 (.br (.le (.get (.v 0) 0) (.i 1099511627776))
  (.br (.le (.i 0) (.get (.v 0) 1))
   (.ret (.cons (.co (.k .bool) (.le (.get (.v 0) 1) (.wrap .i64 (.sub (.i 1099511627776) (.get (.v 0) 0))))) .nil))
   (.ret (.cons (.b false) .nil)))
  (.ret (.cons (.b false) .nil)))
 (.ret (.cons (.b false) .nil)))
set_option maxRecDepth 100000 in
set_option maxHeartbeats 40000000 in
theorem k14 : ConsOk Try.prog ((14, cMay) :: l13) := by
  refine ConsOk.ofC follows names k13 (by kernel_rfl) (fun _ _ => none) 100 (T := sRMay) (by kernel_rfl) (fun _ _ _ => False) (fun _ _ _ => 0) fun ds hp hn => ?_
  unfold sRMay
  have hn2 := hn
  simp only [cMay, cLaw, norms, norm_k, norm_agg, row_norm, normL, normK] at hn2
  obtain ⟨a0, n0, rfl⟩ : ∃ (a0 : Int) (n0 : Int), ds = [.l [.i a0, .i n0]] := ⟨_, _, hn2.symm⟩
  simp only [VC_br, VC_ret, VC_must, VC_loop, VC_again, vcJ_C, vcJ_R, vcJ_J, vcJ_ms, upN_eq, BT_b, BF_b, BT_lt, BF_lt, BT_le, BF_le, BT_eq, BF_eq, BTi_eqb, BFi_eqb, BT_not, BF_not, BT_and, BF_and, B_get, B_v, B_co, I_i, I_v, I_get, I_wrap, I_add, I_sub, I_mul, I_ite, toI_ite, I_len, I_co, den_v, den_i, den_get, den_at, den_cons, den_nil, den_b, den_co, den_eq, den_le, den_lt, den_wrap, den_add, den_sub, den_mul, den_len, norm_k, norm_agg, normK, normL, D.toB_b, D.toI_i, D.toL_l, norms, List.headD_cons, List.tail_cons, wrap_i64, ρof_get, fldD_0, fldD_s, fld_def, List.cons.injEq, D.b.injEq, D.i.injEq, D.l.injEq, and_true, true_and, true_or, or_true, false_or, or_false, false_and, and_false, Bool.true_eq_false, Bool.false_eq_true, false_implies, true_implies, implies_true, not_true_eq_false, not_false_eq_true, ne_eq, mayS_T, mayS_F, sp_l, spD_def, at1, at2,   cMay, Bool.false_eq, Bool.true_eq]
  repeat' (first | (with_reducible apply And.intro) | intro _)
  all_goals first | omega | (rw [Bool.eq_iff_iff]; simp only [BT_le, BT_lt, BT_eq, I_i, I_get, I_wrap, I_sub, den_v, mayS_T, wrap_i64, ρof_get, fldD_0, fldD_s, fld_def, D.toI_i, sp_l]; omega)
abbrev l14 : Cons := (14, cMay) :: l13
theorem fMay (ds : List D) : cMay.f ds = [.b (mayS (sp (ds.headD default)))] := rfl
def sEnd : Tree := (.br (.get (.call 13 (.cons (.co (.agg [(.int .i64), (.int .i64)]) (.cons (.get (.v 0) 0) (.cons (.get (.v 0) 1) .nil))) .nil)) 0)
 (.ret (.cons (.wrap .i64 (.add (.get (.v 0) 0) (.get (.v 0) 1))) .nil))
 (.ret (.cons (.i 0) .nil)))
set_option maxRecDepth 100000 in
set_option maxHeartbeats 40000000 in
theorem k15 : ConsOk Try.prog ((15, cEnd) :: l14) := by
  refine ConsOk.ofC follows names k14 (by kernel_rfl) (fun _ _ => none) 100 (T := sEnd) (by kernel_rfl) (fun _ _ _ => False) (fun _ _ _ => 0) fun ds hp hn => ?_
  unfold sEnd
  have hn2 := hn
  simp only [cEnd, cLaw, norms, norm_k, norm_agg, row_norm, normL, normK] at hn2
  obtain ⟨a0, n0, rfl⟩ : ∃ (a0 : Int) (n0 : Int), ds = [.l [.i a0, .i n0]] := ⟨_, _, hn2.symm⟩
  simp only [VC_br, VC_ret, VC_must, VC_loop, VC_again, vcJ_C, vcJ_R, vcJ_J, vcJ_ms, upN_eq, BT_b, BF_b, BT_lt, BF_lt, BT_le, BF_le, BT_eq, BF_eq, BTi_eqb, BFi_eqb, BT_not, BF_not, BT_and, BF_and, B_get, B_v, B_co, I_i, I_v, I_get, I_wrap, I_add, I_sub, I_mul, I_ite, toI_ite, I_len, I_co, den_v, den_i, den_get, den_at, den_cons, den_nil, den_b, den_co, den_eq, den_le, den_lt, den_wrap, den_add, den_sub, den_mul, den_len, norm_k, norm_agg, normK, normL, D.toB_b, D.toI_i, D.toL_l, norms, List.headD_cons, List.tail_cons, wrap_i64, ρof_get, fldD_0, fldD_s, fld_def, List.cons.injEq, D.b.injEq, D.i.injEq, D.l.injEq, and_true, true_and, true_or, or_true, false_or, or_false, false_and, and_false, Bool.true_eq_false, Bool.false_eq_true, false_implies, true_implies, implies_true, not_true_eq_false, not_false_eq_true, ne_eq, mayS_T, mayS_F, sp_l, spD_def, at1, at2,  den_call (show conOf l14 13 = some cMay from rfl), B_pre (show conOf l14 13 = some cMay from rfl),  cEnd, fMay, endS]
  repeat' (first | (with_reducible apply And.intro) | intro _)
  all_goals (try split) <;> omega
end Sn
