/- A part of the proof: see the law's own text. Conditions: none. -/
import Derived.Test.YtelcedajmnblbaaSpan1
set_option linter.unusedVariables false
set_option linter.unusedSimpArgs false
namespace Sn
open Go Go.AM Go.Proofs
abbrev l15 : Cons := (15, cEnd) :: l14
theorem fEnd (ds : List D) : cEnd.f ds = [.i (at1 endS ds)] := rfl
def sMeete0 : X := (.cons (.co (.agg [(.int .i64), (.int .i64)]) (.cons (.get (.v 0) 0) (.cons (.get (.v 0) 1) .nil))) .nil)
def sMeete1 : X := (.cons (.co (.agg [(.int .i64), (.int .i64)]) (.cons (.get (.v 1) 0) (.cons (.get (.v 1) 1) .nil))) .nil)
def sMeete2 : X := (.get (.call 15 sMeete1) 0)
def sMeete3 : X := (.get (.call 15 sMeete0) 0)
def sMeete4 : X := (.ite (.lt sMeete2 sMeete3) sMeete2 sMeete3)
def sMeete5 : X := (.ite (.lt (.get (.v 0) 0) (.get (.v 1) 0)) (.get (.v 1) 0) (.get (.v 0) 0))
def sMeete6 : X := (.cons (.co (.agg [(.int .i64), (.int .i64)]) (.cons (.i 0) (.cons (.i 0) .nil))) .nil)
def sMeet : Tree := (.br (.get (.call 13 sMeete0) 0)
 (.br (.get (.call 13 sMeete1) 0)
  (.br (.le sMeete4 sMeete5)
   (.ret sMeete6)
   (.ret (.cons (.co (.agg [(.int .i64), (.int .i64)]) (.cons sMeete5 (.cons (.wrap .i64 (.sub sMeete4 sMeete5)) .nil))) .nil)))
  (.ret sMeete6))
 (.ret sMeete6))
set_option maxRecDepth 100000 in
set_option maxHeartbeats 40000000 in
theorem k10 : ConsOk Try.prog ((10, cMeet) :: l15) := by
  refine ConsOk.ofC follows names k15 (by kernel_rfl) (fun _ _ => none) 100 (T := sMeet) (by kernel_rfl) (fun _ _ _ => False) (fun _ _ _ => 0) fun ds hp hn => ?_
  unfold sMeet
  have hn2 := hn
  simp only [cMeet, cLaw, norms, norm_k, norm_agg, row_norm, normL, normK] at hn2
  obtain ⟨a0, n0, a1, n1, rfl⟩ : ∃ (a0 : Int) (n0 : Int) (a1 : Int) (n1 : Int), ds = [.l [.i a0, .i n0], .l [.i a1, .i n1]] := ⟨_, _, _, _, hn2.symm⟩
  simp only [VC_br, VC_ret, VC_must, VC_loop, VC_again, vcJ_C, vcJ_R, vcJ_J, vcJ_ms, upN_eq, BT_b, BF_b, BT_lt, BF_lt, BT_le, BF_le, BT_eq, BF_eq, BTi_eqb, BFi_eqb, BT_not, BF_not, BT_and, BF_and, B_get, B_v, B_co, I_i, I_v, I_get, I_wrap, I_add, I_sub, I_mul, I_ite, toI_ite, I_len, I_co, den_v, den_i, den_get, den_at, den_cons, den_nil, den_b, den_co, den_eq, den_le, den_lt, den_wrap, den_add, den_sub, den_mul, den_len, norm_k, norm_agg, normK, normL, D.toB_b, D.toI_i, D.toL_l, norms, List.headD_cons, List.tail_cons, wrap_i64, ρof_get, fldD_0, fldD_s, fld_def, List.cons.injEq, D.b.injEq, D.i.injEq, D.l.injEq, and_true, true_and, true_or, or_true, false_or, or_false, false_and, and_false, Bool.true_eq_false, Bool.false_eq_true, false_implies, true_implies, implies_true, not_true_eq_false, not_false_eq_true, ne_eq, mayS_T, mayS_F, sp_l, spD_def, at1, at2, sMeete0, sMeete1, sMeete2, sMeete3, sMeete4, sMeete5, sMeete6,  den_call (show conOf l15 13 = some cMay from rfl), den_call (show conOf l15 15 = some cEnd from rfl), B_pre (show conOf l15 13 = some cMay from rfl), B_pre (show conOf l15 15 = some cEnd from rfl),  cMeet, fMay, fEnd, endS, meetS, meetA, meetN]
  repeat' (first | (with_reducible apply And.intro) | intro _)
  all_goals omega
abbrev l10 : Cons := (10, cMeet) :: l15
theorem fMeet (ds : List D) : cMeet.f ds = [spD (at2 meetS ds)] := rfl
def sRMeete0 : X := (.wrap .i64 (.add (.get (.v 1) 0) (.get (.v 1) 1)))
def sRMeete1 : X := (.wrap .i64 (.add (.get (.v 0) 0) (.get (.v 0) 1)))
def sRMeete2 : X := (.lt sRMeete0 sRMeete1)
def sRMeete3 : X := (.cons (.co (.agg [(.int .i64), (.int .i64)]) (.cons (.i 0) (.cons (.i 0) .nil))) .nil)
def sRMeet : Tree := (.br (.lt (.get (.v 0) 0) (.get (.v 1) 0))
 (.br sRMeete2
  (.br (.le sRMeete0 (.get (.v 1) 0))
   (.ret sRMeete3)
   (.ret (.cons (.co (.agg [(.int .i64), (.int .i64)]) (.cons (.get (.v 1) 0) (.cons (.wrap .i64 (.sub sRMeete0 (.get (.v 1) 0))) .nil))) .nil)))
  (.br (.le sRMeete1 (.get (.v 1) 0))
   (.ret sRMeete3)
   (.ret (.cons (.co (.agg [(.int .i64), (.int .i64)]) (.cons (.get (.v 1) 0) (.cons (.wrap .i64 (.sub sRMeete1 (.get (.v 1) 0))) .nil))) .nil))))
 (.br sRMeete2
  (.br (.le sRMeete0 (.get (.v 0) 0))
   (.ret sRMeete3)
   (.ret (.cons (.co (.agg [(.int .i64), (.int .i64)]) (.cons (.get (.v 0) 0) (.cons (.wrap .i64 (.sub sRMeete0 (.get (.v 0) 0))) .nil))) .nil)))
  (.br (.le sRMeete1 (.get (.v 0) 0))
   (.ret sRMeete3)
   (.ret (.cons (.co (.agg [(.int .i64), (.int .i64)]) (.cons (.get (.v 0) 0) (.cons (.wrap .i64 (.sub sRMeete1 (.get (.v 0) 0))) .nil))) .nil)))))
set_option maxRecDepth 100000 in
set_option maxHeartbeats 40000000 in
theorem k17 : ConsOk Try.prog ((17, cRMeet) :: l10) := by
  refine ConsOk.ofC follows names k10 (by kernel_rfl) (fun _ _ => none) 100 (T := sRMeet) (by kernel_rfl) (fun _ _ _ => False) (fun _ _ _ => 0) fun ds hp hn => ?_
  unfold sRMeet
  have hn2 := hn
  simp only [cRMeet, cLaw, norms, norm_k, norm_agg, row_norm, normL, normK] at hn2
  obtain ⟨a0, n0, a1, n1, rfl⟩ : ∃ (a0 : Int) (n0 : Int) (a1 : Int) (n1 : Int), ds = [.l [.i a0, .i n0], .l [.i a1, .i n1]] := ⟨_, _, _, _, hn2.symm⟩
  have hq : both _ = true := hp
  simp only [both, List.headD_cons, List.tail_cons, Bool.and_eq_true, mayS_T, sp_l] at hq
  obtain ⟨hq1, hq2⟩ := hq
  simp only [VC_br, VC_ret, VC_must, VC_loop, VC_again, vcJ_C, vcJ_R, vcJ_J, vcJ_ms, upN_eq, BT_b, BF_b, BT_lt, BF_lt, BT_le, BF_le, BT_eq, BF_eq, BTi_eqb, BFi_eqb, BT_not, BF_not, BT_and, BF_and, B_get, B_v, B_co, I_i, I_v, I_get, I_wrap, I_add, I_sub, I_mul, I_ite, toI_ite, I_len, I_co, den_v, den_i, den_get, den_at, den_cons, den_nil, den_b, den_co, den_eq, den_le, den_lt, den_wrap, den_add, den_sub, den_mul, den_len, norm_k, norm_agg, normK, normL, D.toB_b, D.toI_i, D.toL_l, norms, List.headD_cons, List.tail_cons, wrap_i64, ρof_get, fldD_0, fldD_s, fld_def, List.cons.injEq, D.b.injEq, D.i.injEq, D.l.injEq, and_true, true_and, true_or, or_true, false_or, or_false, false_and, and_false, Bool.true_eq_false, Bool.false_eq_true, false_implies, true_implies, implies_true, not_true_eq_false, not_false_eq_true, ne_eq, mayS_T, mayS_F, sp_l, spD_def, at1, at2, sRMeete0, sRMeete1, sRMeete2, sRMeete3,   cRMeet, meetS, meetA, meetN]
  repeat' (first | (with_reducible apply And.intro) | intro _)
  all_goals omega
abbrev l17 : Cons := (17, cRMeet) :: l10
theorem fRMeet (ds : List D) : cRMeet.f ds = [spD (at2 meetS ds)] := rfl
theorem pRMeet (ds : List D) : (cRMeet.pre ds = true) = (MaySp (sp (ds.headD default)).1 (sp (ds.headD default)).2 ∧ MaySp (sp (ds.tail.headD default)).1 (sp (ds.tail.headD default)).2) := by
  show (both ds = true) = _
  simp only [both, Bool.and_eq_true, mayS_T]
theorem row_l (l : List D) : Sh.norm (.row spanK) (.l l) = .l ((l.map sp).map spD) := row_norm (.l l)
theorem meetS_1 (a n b m : Int) : (meetS a n b m).1 = meetA a n b m := rfl
theorem meetS_2 (a n b m : Int) : (meetS a n b m).2 = meetN a n b m := rfl
theorem map_sp (l : List Sp) : (l.map spD).map sp = l := by
  rw [List.map_map, show sp ∘ spD = id from rfl, List.map_id]
theorem meet_facts (a n b m : Int) (h1 : MaySp a n) (h2 : MaySp b m) :
    (meetN a n b m = 0 ∧ meetA a n b m = 0 ∧ (a + n ≤ b ∨ b + m ≤ a ∨ n = 0 ∨ m = 0)) ∨ (0 < meetN a n b m ∧ a ≤ meetA a n b m ∧ meetA a n b m + meetN a n b m ≤ a + n ∧
      b ≤ meetA a n b m ∧ meetA a n b m + meetN a n b m ≤ b + m ∧ (meetA a n b m = a ∨ meetA a n b m = b) ∧ (meetA a n b m + meetN a n b m = a + n ∨ meetA a n b m + meetN a n b m = b + m)) := by
  unfold meetA meetN
  omega
theorem sp_meet (a n b m : Int) : sp (.l [.i (meetA a n b m), .i (meetN a n b m)]) = meetS a n b m := rfl
theorem mapInj (l l' : List Sp) : (l.map spD = l'.map spD) = (l = l') := by
  refine propext ⟨fun h => ?_, fun h => by rw [h]⟩
  have := congrArg (List.map sp) h
  simpa [List.map_map, show sp ∘ spD = id from rfl] using this
end Sn
