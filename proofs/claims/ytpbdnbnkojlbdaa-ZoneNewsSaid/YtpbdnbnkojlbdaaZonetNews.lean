/- A part of the proof: see the law's own text. Conditions: none. -/
import Derived.Test.YtpbdnbnkojlbdaaZone1
set_option linter.unusedVariables false
set_option linter.unusedSimpArgs false
namespace Z
open Go Go.AM Go.Proofs
def tNewse0 : X := (.cons (.v 2) (.cons (.v 3) (.cons (.i 0) .nil)))
def tNewse1 : X := (.cons (.co (.agg [(.int .i64), (.int .i64), (.int .i64), (.int .i64), (.int .i64), (.int .i64)]) (.cons (.v 0) (.cons (.v 1) (.cons (.i 1) tNewse0)))) .nil)
def tNewse2 : X := (.get (.call 12 tNewse1) 0)
def tNewse3 : X := (.cons (.co (.agg [(.int .i64), (.int .i64), (.int .i64), (.int .i64), (.int .i64), (.int .i64)]) (.cons (.v 0) (.cons (.v 1) (.cons (.i 0) tNewse0)))) .nil)
def tNewse4 : X := (.get (.call 12 tNewse3) 0)
def tNews : Tree := (.br (.eq (.v 1) (.i 2))
 (.br (.get (.call 19 tNewse1) 0)
  (.br (.get (.call 8 .nil) 0)
   (.br tNewse2
    (.ret (.cons (.b true) .nil))
    (.ret (.cons (.b false) .nil)))
   (.ret (.cons (.b false) .nil)))
  (.br (.get (.call 8 .nil) 0)
   (.br tNewse2
    (.ret (.cons (.b false) .nil))
    (.ret (.cons (.b true) .nil)))
   (.ret (.cons (.b false) .nil))))
 (.br (.get (.call 19 tNewse3) 0)
  (.br (.get (.call 8 .nil) 0)
   (.br tNewse4
    (.ret (.cons (.b true) .nil))
    (.ret (.cons (.b false) .nil)))
   (.ret (.cons (.b false) .nil)))
  (.br (.get (.call 8 .nil) 0)
   (.br tNewse4
    (.ret (.cons (.b false) .nil))
    (.ret (.cons (.b true) .nil)))
   (.ret (.cons (.b false) .nil)))))
def c4 : Con := cLaw [.k i64, .k i64, .k i64, .k i64] [0, 0, 0, 0]
set_option maxRecDepth 100000 in
set_option maxHeartbeats 4000000 in
theorem k4 : ConsOk Try.prog ((4, c4) :: cons3) := by
  refine kk.of follows names (by kernel_rfl) 200 (T := tNews) (by kernel_rfl) fun ds hp hn => ?_
  unfold tNews
  obtain ⟨x0, x1, x2, x3, rfl⟩ : ∃ x0 x1 x2 x3 : Int, ds = [.i x0, .i x1, .i x2, .i x3] := ⟨_, _, _, _, hn.symm⟩
  have hp : lawPre _ _ _ = true := hp
  simp only [lawPre, wfs, wfSh, wfL, wfK, zoneK, i64, List.headD_cons, List.tail_cons, D.toI_i, D.toL_l, wf_i64, capped, Bool.and_eq_true, and_true] at hp
  simp only [VC_br, VC_ret, VC_must, vc0_C, vc0_R, BT_b, BF_b, BT_lt, BF_lt, BT_le, BF_le, BT_eq, BF_eq, BT_eqb, BF_eqb, BT_not, BF_not, BT_and, BF_and, B_get, B_v, B_co, I_i, I_v, I_get, I_wrap, I_add, I_sub, den_v, den_i, den_get, den_cons, den_nil, den_b, den_co, den_eq, den_le, den_lt, den_wrap, den_add, den_sub, den_mul, den_len, Sh.norm, normK, normL, D.toB_b, D.toI_i, D.toL_l, norms, List.headD_cons, List.tail_cons, wrap_i64, ρof_get, List.cons.injEq, D.b.injEq, and_true, tNewse0, tNewse1, tNewse2, tNewse3, tNewse4,  c4, cLaw, den_call con19, den_call con12, den_call con8, fldD_0, fldD_s, fld_def, fMay, fTrue, mayD_def, mayZ_T, mayZ_F]
  repeat' (first | (apply vc_and <;> intro _) | (apply vc_must; rotate_left; intro _; rotate_right))
  all_goals first | trivial | contradiction | omega
end Z
