/- A part of the proof: see the law's own text. Conditions: none. -/
import Derived.Test.YtelcedajmnblbaaSpan2
set_option linter.unusedVariables false
set_option linter.unusedSimpArgs false
namespace Sn
open Go Go.AM Go.Proofs
def sCute0 : X := (.co (.agg [(.int .i64), (.int .i64)]) (.cons (.get (.v 0) 0) (.cons (.get (.v 0) 1) .nil)))
def sCute1 : X := (.cons sCute0 .nil)
def sCute2 : X := (.cons (.co (.agg [(.int .i64), (.int .i64)]) (.cons (.get (.v 1) 0) (.cons (.get (.v 1) 1) .nil))) .nil)
def sCute3 : X := (.get (.call 10 (.cons sCute0 sCute2)) 0)
def sCute4 : X := (.get sCute3 1)
def sCute5 : X := (.get (.call 15 sCute1) 0)
def sCute6 : X := (.get (.call 15 (.cons (.co (.agg [(.int .i64), (.int .i64)]) (.cons sCute5 (.cons (.i 0) .nil))) .nil)) 0)
def sCute7 : X := (.le sCute5 sCute6)
def sCute8 : X := (.cons (.co (.row [(.int .i64), (.int .i64)]) .nil) .nil)
def sCute9 : X := (.wrap .i64 (.sub sCute5 sCute6))
def sCute10 : X := (.lt (.i 0) sCute9)
def sCute11 : X := (.cons (.cons sCute6 (.cons sCute9 .nil)) .nil)
def sCute12 : X := (.cons (.co (.row [(.int .i64), (.int .i64)]) sCute11) .nil)
def sCute13 : X := (.wrap .i64 (.sub sCute5 (.get (.v 0) 0)))
def sCute14 : X := (.lt (.i 0) sCute13)
def sCute15 : X := (.cons (.get (.v 0) 0) (.cons sCute13 .nil))
def sCute16 : X := (.cons (.co (.row [(.int .i64), (.int .i64)]) (.cons sCute15 .nil)) .nil)
def sCute17 : X := (.get sCute3 0)
def sCute18 : X := (.get (.call 15 (.cons (.co (.agg [(.int .i64), (.int .i64)]) (.cons sCute17 (.cons sCute4 .nil))) .nil)) 0)
def sCute19 : X := (.le sCute5 sCute18)
def sCute20 : X := (.wrap .i64 (.sub sCute5 sCute18))
def sCute21 : X := (.lt (.i 0) sCute20)
def sCute22 : X := (.cons (.cons sCute18 (.cons sCute20 .nil)) .nil)
def sCute23 : X := (.cons (.co (.row [(.int .i64), (.int .i64)]) sCute22) .nil)
def sCute24 : X := (.wrap .i64 (.sub sCute17 (.get (.v 0) 0)))
def sCute25 : X := (.lt (.i 0) sCute24)
def sCute26 : X := (.cons (.get (.v 0) 0) (.cons sCute24 .nil))
def sCute27 : X := (.cons (.co (.row [(.int .i64), (.int .i64)]) (.cons sCute26 .nil)) .nil)
def sCut : Tree := (.br (.get (.call 13 sCute1) 0)
 (.br (.get (.call 13 sCute2) 0)
  (.br (.eq sCute4 (.i 0))
   (.br (.le sCute5 (.get (.v 0) 0))
    (.br sCute7
     (.ret sCute8)
     (.br sCute10
      (.ret sCute12)
      (.ret sCute8)))
    (.br sCute7
     (.br sCute14
      (.ret sCute16)
      (.ret sCute8))
     (.br sCute14
      (.br sCute10
       (.ret (.cons (.co (.row [(.int .i64), (.int .i64)]) (.cons sCute15 sCute11)) .nil))
       (.ret sCute16))
      (.br sCute10
       (.ret sCute12)
       (.ret sCute8)))))
   (.br (.le sCute17 (.get (.v 0) 0))
    (.br sCute19
     (.ret sCute8)
     (.br sCute21
      (.ret sCute23)
      (.ret sCute8)))
    (.br sCute19
     (.br sCute25
      (.ret sCute27)
      (.ret sCute8))
     (.br sCute25
      (.br sCute21
       (.ret (.cons (.co (.row [(.int .i64), (.int .i64)]) (.cons sCute26 sCute22)) .nil))
       (.ret sCute27))
      (.br sCute21
       (.ret sCute23)
       (.ret sCute8))))))
  (.ret sCute8))
 (.ret sCute8))
set_option maxRecDepth 100000 in
set_option maxHeartbeats 40000000 in
theorem k11 : ConsOk Try.prog ((11, cCut) :: l17) := by
  refine ConsOk.ofC follows names k17 (by kernel_rfl) (fun _ _ => none) 100 (T := sCut) (by kernel_rfl) (fun _ _ _ => False) (fun _ _ _ => 0) fun ds hp hn => ?_
  unfold sCut
  have hn2 := hn
  simp only [cCut, cLaw, norms, norm_k, norm_agg, row_norm, normL, normK] at hn2
  obtain ⟨a0, n0, a1, n1, rfl⟩ : ∃ (a0 : Int) (n0 : Int) (a1 : Int) (n1 : Int), ds = [.l [.i a0, .i n0], .l [.i a1, .i n1]] := ⟨_, _, _, _, hn2.symm⟩
  simp only [VC_br, VC_ret, VC_must, VC_loop, VC_again, vcJ_C, vcJ_R, vcJ_J, vcJ_ms, upN_eq, BT_b, BF_b, BT_lt, BF_lt, BT_le, BF_le, BT_eq, BF_eq, BTi_eqb, BFi_eqb, BT_not, BF_not, BT_and, BF_and, B_get, B_v, B_co, I_i, I_v, I_get, I_wrap, I_add, I_sub, I_mul, I_ite, toI_ite, I_len, I_co, den_v, den_i, den_get, den_at, den_cons, den_nil, den_b, den_co, den_eq, den_le, den_lt, den_wrap, den_add, den_sub, den_mul, den_len, norm_k, norm_agg, normK, normL, D.toB_b, D.toI_i, D.toL_l, norms, List.headD_cons, List.tail_cons, wrap_i64, ρof_get, fldD_0, fldD_s, fld_def, List.cons.injEq, D.b.injEq, D.i.injEq, D.l.injEq, and_true, true_and, true_or, or_true, false_or, or_false, false_and, and_false, Bool.true_eq_false, Bool.false_eq_true, false_implies, true_implies, implies_true, not_true_eq_false, not_false_eq_true, ne_eq, mayS_T, mayS_F, sp_l, spD_def, at1, at2, sCute0, sCute1, sCute2, sCute3, sCute4, sCute5, sCute6, sCute7, sCute8, sCute9, sCute10, sCute11, sCute12, sCute13, sCute14, sCute15, sCute16, sCute17, sCute18, sCute19, sCute20, sCute21, sCute22, sCute23, sCute24, sCute25, sCute26, sCute27,  den_call (show conOf l17 13 = some cMay from rfl), den_call (show conOf l17 15 = some cEnd from rfl), den_call (show conOf l17 10 = some cMeet from rfl), B_pre (show conOf l17 13 = some cMay from rfl), B_pre (show conOf l17 15 = some cEnd from rfl), B_pre (show conOf l17 10 = some cMeet from rfl),  cCut, fMay, fEnd, fMeet, meetS_1, meetS_2, row_l, mapInj, map_sp, List.map_cons, List.map_nil]
  repeat' (first | (with_reducible apply And.intro) | intro _)
  all_goals first
    | assumption
    | omega
    | (exfalso; (try simp only [endS] at *); omega)
    | (have mf := meet_facts a0 n0 a1 n1 (by assumption) (by assumption)
       clear hp hn hn2
       simp only [cutS, endS] at *
       generalize meetA a0 n0 a1 n1 = mA at *
       generalize meetN a0 n0 a1 n1 = mN at *
       (repeat' split) <;> first | (exfalso; omega) | (simp only [List.map_cons, List.map_nil, List.append_nil, List.nil_append, List.cons_append, spD_def, List.cons.injEq, D.l.injEq, D.i.injEq, and_true, true_and]; omega) | rfl)
    | (clear hp hn hn2; simp only [cutS, endS] at *; (repeat' split) <;> first | (exfalso; omega) | rfl)
abbrev l11 : Cons := (11, cCut) :: l17
theorem fCut (ds : List D) : cCut.f ds = [.l ((at2 cutS ds).map spD)] := rfl
def sRCute0 : X := (.cons (.get (.v 0) 0) (.cons (.get (.v 0) 1) .nil))
def sRCute1 : X := (.cons (.co (.agg [(.int .i64), (.int .i64)]) sRCute0) (.cons (.co (.agg [(.int .i64), (.int .i64)]) (.cons (.get (.v 1) 0) (.cons (.get (.v 1) 1) .nil))) .nil))
def sRCute2 : X := (.get (.call 17 sRCute1) 0)
def sRCute3 : X := (.get sRCute2 1)
def sRCute4 : X := (.cons (.co (.row [(.int .i64), (.int .i64)]) .nil) .nil)
def sRCute5 : X := (.get sRCute2 0)
def sRCute6 : X := (.wrap .i64 (.add sRCute5 sRCute3))
def sRCute7 : X := (.wrap .i64 (.add (.get (.v 0) 0) (.get (.v 0) 1)))
def sRCute8 : X := (.lt sRCute6 sRCute7)
def sRCute9 : X := (.cons (.get (.v 0) 0) (.cons (.wrap .i64 (.sub sRCute5 (.get (.v 0) 0))) .nil))
def sRCute10 : X := (.cons (.cons sRCute6 (.cons (.wrap .i64 (.sub (.wrap .i64 (.sub sRCute7 sRCute5)) sRCute3)) .nil)) .nil)
def sRCut : Tree := (.must (.pre 17 sRCute1)
 (.br (.eq sRCute3 (.i 0))
 (.br (.eq (.get (.v 0) 1) (.i 0))
  (.ret sRCute4)
  (.ret (.cons (.co (.row [(.int .i64), (.int .i64)]) (.cons sRCute0 .nil)) .nil)))
 (.br (.lt (.get (.v 0) 0) sRCute5)
  (.br sRCute8
   (.ret (.cons (.co (.row [(.int .i64), (.int .i64)]) (.cons sRCute9 sRCute10)) .nil))
   (.ret (.cons (.co (.row [(.int .i64), (.int .i64)]) (.cons sRCute9 .nil)) .nil)))
  (.br sRCute8
   (.ret (.cons (.co (.row [(.int .i64), (.int .i64)]) sRCute10) .nil))
   (.ret sRCute4)))))
set_option maxRecDepth 100000 in
set_option maxHeartbeats 40000000 in
theorem k19 : ConsOk Try.prog ((19, cRCut) :: l11) := by
  refine ConsOk.ofC follows names k11 (by kernel_rfl) (fun _ _ => none) 100 (T := sRCut) (by kernel_rfl) (fun _ _ _ => False) (fun _ _ _ => 0) fun ds hp hn => ?_
  unfold sRCut
  have hn2 := hn
  simp only [cRCut, cLaw, norms, norm_k, norm_agg, row_norm, normL, normK] at hn2
  obtain ⟨a0, n0, a1, n1, rfl⟩ : ∃ (a0 : Int) (n0 : Int) (a1 : Int) (n1 : Int), ds = [.l [.i a0, .i n0], .l [.i a1, .i n1]] := ⟨_, _, _, _, hn2.symm⟩
  have hq : both _ = true := hp
  simp only [both, List.headD_cons, List.tail_cons, Bool.and_eq_true, mayS_T, sp_l] at hq
  obtain ⟨hq1, hq2⟩ := hq
  simp only [VC_br, VC_ret, VC_must, VC_loop, VC_again, vcJ_C, vcJ_R, vcJ_J, vcJ_ms, upN_eq, BT_b, BF_b, BT_lt, BF_lt, BT_le, BF_le, BT_eq, BF_eq, BTi_eqb, BFi_eqb, BT_not, BF_not, BT_and, BF_and, B_get, B_v, B_co, I_i, I_v, I_get, I_wrap, I_add, I_sub, I_mul, I_ite, toI_ite, I_len, I_co, den_v, den_i, den_get, den_at, den_cons, den_nil, den_b, den_co, den_eq, den_le, den_lt, den_wrap, den_add, den_sub, den_mul, den_len, norm_k, norm_agg, normK, normL, D.toB_b, D.toI_i, D.toL_l, norms, List.headD_cons, List.tail_cons, wrap_i64, ρof_get, fldD_0, fldD_s, fld_def, List.cons.injEq, D.b.injEq, D.i.injEq, D.l.injEq, and_true, true_and, true_or, or_true, false_or, or_false, false_and, and_false, Bool.true_eq_false, Bool.false_eq_true, false_implies, true_implies, implies_true, not_true_eq_false, not_false_eq_true, ne_eq, mayS_T, mayS_F, sp_l, spD_def, at1, at2, sRCute0, sRCute1, sRCute2, sRCute3, sRCute4, sRCute5, sRCute6, sRCute7, sRCute8, sRCute9, sRCute10,  den_call (show conOf l11 17 = some cRMeet from rfl), B_pre (show conOf l11 17 = some cRMeet from rfl),  cRCut, fRMeet, pRMeet, meetS_1, meetS_2, row_l, mapInj, map_sp, List.map_cons, List.map_nil]
  repeat' (first | (with_reducible apply And.intro) | intro _)
  all_goals first
    | assumption
    | omega
    | (exfalso; (try simp only [endS] at *); omega)
    | (have mf := meet_facts a0 n0 a1 n1 (by assumption) (by assumption)
       clear hp hn hn2
       simp only [cutS, endS] at *
       generalize meetA a0 n0 a1 n1 = mA at *
       generalize meetN a0 n0 a1 n1 = mN at *
       (repeat' split) <;> first | (exfalso; omega) | (simp only [List.map_cons, List.map_nil, List.append_nil, List.nil_append, List.cons_append, spD_def, List.cons.injEq, D.l.injEq, D.i.injEq, and_true, true_and]; omega) | rfl)
    | (clear hp hn hn2; simp only [cutS, endS] at *; (repeat' split) <;> first | (exfalso; omega) | rfl)
abbrev l19 : Cons := (19, cRCut) :: l11
theorem fRCut (ds : List D) : cRCut.f ds = [.l ((at2 cutS ds).map spD)] := rfl
theorem pRCut (ds : List D) : (cRCut.pre ds = true) = (MaySp (sp (ds.headD default)).1 (sp (ds.headD default)).2 ∧ MaySp (sp (ds.tail.headD default)).1 (sp (ds.tail.headD default)).2) := pRMeet ds
end Sn
