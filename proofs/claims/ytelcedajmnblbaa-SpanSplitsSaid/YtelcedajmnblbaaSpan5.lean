/- A part of the proof: see the law's own text. Conditions: none. -/
import Derived.Test.YtelcedajmnblbaaSpan4
set_option linter.unusedVariables false
set_option linter.unusedSimpArgs false
namespace Sn
open Go Go.AM Go.Proofs
abbrev l18 : Cons := (18, cSame) :: l19
theorem fSame (ds : List D) : cSame.f ds = [.b (decide (pairs (ds.headD default) = pairs (ds.tail.headD default)))] := rfl
theorem pSame (ds : List D) : (cSame.pre ds = true) = ((pairs (ds.headD default)).length ≤ 1152921504606846976) := by
  show (shortB ds = true) = _
  simp only [shortB, decide_eq_true_eq]
theorem fTrue (ds : List D) : cTrue.f ds = [.b true] := rfl
theorem cut_len (a n b m : Int) : (cutS a n b m).length ≤ 1152921504606846976 := by
  have : (cutS a n b m).length ≤ 2 := by
    unfold cutS
    (repeat' split) <;> simp
  omega
theorem cut_none (a n b m : Int) (h : ¬ (MaySp a n ∧ MaySp b m)) : cutS a n b m = [] := if_neg h
theorem meet_none (a n b m : Int) (h : ¬ (MaySp a n ∧ MaySp b m)) : meetA a n b m = 0 ∧ meetN a n b m = 0 := ⟨if_neg fun q => h ⟨q.1, q.2.1⟩, if_neg fun q => h ⟨q.1, q.2.1⟩⟩
def c3 : Con := cLaw [.agg spanK, .agg spanK, .k i64] [0, 0, 0]
def sPairse0 : X := (.co (.agg [(.int .i64), (.int .i64)]) (.cons (.get (.v 0) 0) (.cons (.get (.v 0) 1) .nil)))
def sPairse1 : X := (.cons sPairse0 .nil)
def sPairse2 : X := (.get (.call 13 sPairse1) 0)
def sPairse3 : X := (.get (.call 14 sPairse1) 0)
def sPairse4 : X := (.get (.call 15 sPairse1) 0)
def sPairse5 : X := (.wrap .i64 (.add (.get (.v 0) 0) (.get (.v 0) 1)))
def sPairse6 : X := (.lt (.v 2) sPairse4)
def sPairse7 : X := (.lt (.v 2) sPairse5)
def sPairse8 : X := (.cons (.co (.agg [(.int .i64), (.int .i64)]) (.cons (.get (.v 1) 0) (.cons (.get (.v 1) 1) .nil))) .nil)
def sPairse9 : X := (.get (.call 14 sPairse8) 0)
def sPairse10 : X := (.cons sPairse0 sPairse8)
def sPairse11 : X := (.pre 17 sPairse10)
def sPairse12 : X := (.get (.call 10 sPairse10) 0)
def sPairse13 : X := (.get sPairse12 0)
def sPairse14 : X := (.get (.call 17 sPairse10) 0)
def sPairse15 : X := (.get sPairse12 1)
def sPairse16 : X := (.and (.eq sPairse13 (.get sPairse14 0)) (.eq sPairse15 (.get sPairse14 1)))
def sPairse17 : X := (.pre 19 sPairse10)
def sPairse18 : X := (.get (.call 11 sPairse10) 0)
def sPairse19 : X := (.cons (.co (.row [(.int .i64), (.int .i64)]) sPairse18) (.cons (.co (.row [(.int .i64), (.int .i64)]) (.get (.call 19 sPairse10) 0)) .nil))
def sPairse20 : X := (.pre 18 sPairse19)
def sPairse21 : X := (.cons (.co (.k .bool) (.get (.call 18 sPairse19) 0)) .nil)
def sPairse22 : X := (.and (.eq sPairse13 (.i 0)) (.eq sPairse15 (.i 0)))
def sPairse23 : X := (.cons (.co (.k .bool) (.eq (.len sPairse18) (.i 0))) .nil)
def sPairs : Tree := (.br (.get (.call 12 .nil) 0)
 (.br (.eqb sPairse2 sPairse3)
  (.br sPairse3
   (.br (.eq sPairse4 sPairse5)
    (.br sPairse2
     (.br (.le (.get (.v 0) 0) (.v 2))
      (.br (.eqb sPairse6 sPairse7)
       (.br sPairse9
        (.must sPairse11
         (.br sPairse16
         (.must sPairse17
          (.must sPairse20
          (.ret sPairse21)))
         (.ret (.cons (.b false) .nil))))
        (.br sPairse22
         (.ret sPairse23)
         (.ret (.cons (.b false) .nil))))
       (.ret (.cons (.b false) .nil)))
      (.br sPairse9
       (.must sPairse11
        (.br sPairse16
        (.must sPairse17
         (.must sPairse20
         (.ret sPairse21)))
        (.ret (.cons (.b false) .nil))))
       (.br sPairse22
        (.ret sPairse23)
        (.ret (.cons (.b false) .nil)))))
     (.br (.le (.get (.v 0) 0) (.v 2))
      (.br (.eqb (.b false) sPairse7)
       (.br sPairse9
        (.must sPairse11
         (.br sPairse16
         (.must sPairse17
          (.must sPairse20
          (.ret sPairse21)))
         (.ret (.cons (.b false) .nil))))
        (.br sPairse22
         (.ret sPairse23)
         (.ret (.cons (.b false) .nil))))
       (.ret (.cons (.b false) .nil)))
      (.br sPairse9
       (.must sPairse11
        (.br sPairse16
        (.must sPairse17
         (.must sPairse20
         (.ret sPairse21)))
        (.ret (.cons (.b false) .nil))))
       (.br sPairse22
        (.ret sPairse23)
        (.ret (.cons (.b false) .nil))))))
    (.ret (.cons (.b false) .nil)))
   (.br (.eq sPairse4 (.i 0))
    (.br sPairse2
     (.br (.le (.get (.v 0) 0) (.v 2))
      (.br (.eqb sPairse6 (.b false))
       (.br sPairse22
        (.ret sPairse23)
        (.ret (.cons (.b false) .nil)))
       (.ret (.cons (.b false) .nil)))
      (.br sPairse22
       (.ret sPairse23)
       (.ret (.cons (.b false) .nil))))
     (.br sPairse22
      (.ret sPairse23)
      (.ret (.cons (.b false) .nil))))
    (.ret (.cons (.b false) .nil))))
  (.ret (.cons (.b false) .nil)))
 (.ret (.cons (.b false) .nil)))
set_option maxRecDepth 100000 in
set_option maxHeartbeats 40000000 in
theorem k3 : ConsOk Try.prog ((3, c3) :: l18) := by
  refine ConsOk.ofC follows names k18 (by kernel_rfl) (fun _ _ => none) 100 (T := sPairs) (by kernel_rfl) (fun _ _ _ => False) (fun _ _ _ => 0) fun ds hp hn => ?_
  unfold sPairs
  have hn2 := hn
  simp only [c3, cLaw, norms, norm_k, norm_agg, row_norm, normL, normK] at hn2
  obtain ⟨a0, n0, a1, n1, x2, rfl⟩ : ∃ (a0 : Int) (n0 : Int) (a1 : Int) (n1 : Int) (x2 : Int), ds = [.l [.i a0, .i n0], .l [.i a1, .i n1], .i x2] := ⟨_, _, _, _, _, hn2.symm⟩
  have hp : lawPre _ _ _ = true := hp
  simp only [lawPre, wfs, wfSh, wfL, wfK, List.headD_cons, List.tail_cons, D.toI_i, D.toL_l, wf_i64, capped, Bool.and_eq_true, and_true, decide_eq_true_eq, List.length_map] at hp
  simp only [VC_br, VC_ret, VC_must, VC_loop, VC_again, vcJ_C, vcJ_R, vcJ_J, vcJ_ms, upN_eq, BT_b, BF_b, BT_lt, BF_lt, BT_le, BF_le, BT_eq, BF_eq, BTi_eqb, BFi_eqb, BT_not, BF_not, BT_and, BF_and, B_get, B_v, B_co, I_i, I_v, I_get, I_wrap, I_add, I_sub, I_mul, I_ite, toI_ite, I_len, I_co, den_v, den_i, den_get, den_at, den_cons, den_nil, den_b, den_co, den_eq, den_le, den_lt, den_wrap, den_add, den_sub, den_mul, den_len, norm_k, norm_agg, normK, normL, D.toB_b, D.toI_i, D.toL_l, norms, List.headD_cons, List.tail_cons, wrap_i64, ρof_get, fldD_0, fldD_s, fld_def, List.cons.injEq, D.b.injEq, D.i.injEq, D.l.injEq, and_true, true_and, true_or, or_true, false_or, or_false, false_and, and_false, Bool.true_eq_false, Bool.false_eq_true, false_implies, true_implies, implies_true, not_true_eq_false, not_false_eq_true, ne_eq, mayS_T, mayS_F, sp_l, spD_def, at1, at2, sPairse0, sPairse1, sPairse2, sPairse3, sPairse4, sPairse5, sPairse6, sPairse7, sPairse8, sPairse9, sPairse10, sPairse11, sPairse12, sPairse13, sPairse14, sPairse15, sPairse16, sPairse17, sPairse18, sPairse19, sPairse20, sPairse21, sPairse22, sPairse23,  den_call (show conOf l18 12 = some cTrue from rfl), den_call (show conOf l18 13 = some cMay from rfl), den_call (show conOf l18 14 = some cMay from rfl), den_call (show conOf l18 15 = some cEnd from rfl), den_call (show conOf l18 10 = some cMeet from rfl), den_call (show conOf l18 17 = some cRMeet from rfl), den_call (show conOf l18 11 = some cCut from rfl), den_call (show conOf l18 19 = some cRCut from rfl), den_call (show conOf l18 18 = some cSame from rfl), B_pre (show conOf l18 12 = some cTrue from rfl), B_pre (show conOf l18 13 = some cMay from rfl), B_pre (show conOf l18 14 = some cMay from rfl), B_pre (show conOf l18 15 = some cEnd from rfl), B_pre (show conOf l18 10 = some cMeet from rfl), B_pre (show conOf l18 17 = some cRMeet from rfl), B_pre (show conOf l18 11 = some cCut from rfl), B_pre (show conOf l18 19 = some cRCut from rfl), B_pre (show conOf l18 18 = some cSame from rfl),  c3, cLaw, fTrue, fMay, fEnd, fMeet, fRMeet, fCut, fRCut, fSame, pRMeet, pRCut, pSame, meetS_1, meetS_2, decide_eq_true_eq, pairs, map_sp, List.length_map, row_l, mapInj, map_sp, List.map_cons, List.map_nil]
  repeat' (first | (with_reducible apply And.intro) | intro _)
  all_goals first
    | omega
    | (simp only [endS] at *; omega)
    | exact cut_len _ _ _ _
    | exact meet_none _ _ _ _ (by omega)
    | (rw [cut_none _ _ _ _ (by omega)]; rfl)
    | (exfalso; rcases meet_none a0 n0 a1 n1 (by omega) with ⟨q1, q2⟩; simp only [endS] at *; omega)
end Sn
