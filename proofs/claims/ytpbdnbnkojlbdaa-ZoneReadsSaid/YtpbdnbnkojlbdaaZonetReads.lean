/- A part of the proof: see the law's own text. Conditions: none. -/
import Derived.Test.YtpbdnbnkojlbdaaZone1
set_option linter.unusedVariables false
set_option linter.unusedSimpArgs false
namespace Z
open Go Go.AM Go.Proofs
def tReadse0 : X := (.cons (.co (.agg [(.int .i64), (.int .i64), (.int .i64), (.int .i64), (.int .i64), (.int .i64)]) (.cons (.get (.v 0) 0) (.cons (.get (.v 0) 1) (.cons (.get (.v 0) 2) (.cons (.get (.v 0) 3) (.cons (.get (.v 0) 4) (.cons (.get (.v 0) 5) .nil))))))) .nil)
def tReadse1 : X := (.get (.call 12 tReadse0) 0)
def tReadse2 : X := (.wrap .i64 (.add (.get (.v 0) 3) (.get (.v 0) 4)))
def tReadse3 : X := (.lt (.v 1) tReadse2)
def tReadse4 : X := (.le (.v 2) (.wrap .i64 (.sub tReadse2 (.v 1))))
def tReadse5 : X := (.lt (.wrap .i64 (.sub (.wrap .i64 (.add (.get (.v 0) 3) (.get (.v 0) 5))) (.v 1))) (.v 2))
def tReads : Tree := (.br (.get (.call 8 .nil) 0)
 (.br (.get (.call 19 tReadse0) 0)
  (.br (.lt (.v 2) (.i 1))
   (.br tReadse1
    (.ret (.cons (.b true) .nil))
    (.ret (.cons (.b true) .nil)))
   (.br (.eq (.get (.v 0) 2) (.i 7))
    (.br tReadse1
     (.ret (.cons (.b true) .nil))
     (.ret (.cons (.b false) .nil)))
    (.br (.le (.get (.v 0) 3) (.v 1))
     (.br tReadse3
      (.br tReadse4
       (.br (.eq (.get (.v 0) 1) (.i 2))
        (.br tReadse5
         (.br tReadse1
          (.ret (.cons (.b true) .nil))
          (.ret (.cons (.b false) .nil)))
         (.br tReadse1
          (.ret (.cons (.b true) .nil))
          (.ret (.cons (.b false) .nil))))
        (.br tReadse1
         (.ret (.cons (.b true) .nil))
         (.ret (.cons (.b false) .nil))))
       (.br tReadse1
        (.ret (.cons (.b true) .nil))
        (.ret (.cons (.b false) .nil))))
      (.br tReadse1
       (.ret (.cons (.b true) .nil))
       (.ret (.cons (.b false) .nil))))
     (.br tReadse1
      (.ret (.cons (.b true) .nil))
      (.ret (.cons (.b false) .nil))))))
  (.br tReadse1
   (.br (.lt (.v 2) (.i 1))
    (.ret (.cons (.b true) .nil))
    (.br (.eq (.get (.v 0) 2) (.i 7))
     (.ret (.cons (.b false) .nil))
     (.br (.le (.get (.v 0) 3) (.v 1))
      (.br tReadse3
       (.br tReadse4
        (.br (.eq (.get (.v 0) 1) (.i 2))
         (.br tReadse5
          (.ret (.cons (.b false) .nil))
          (.ret (.cons (.b false) .nil)))
         (.ret (.cons (.b false) .nil)))
        (.ret (.cons (.b false) .nil)))
       (.ret (.cons (.b false) .nil)))
      (.ret (.cons (.b false) .nil)))))
   (.ret (.cons (.b true) .nil))))
 (.ret (.cons (.b false) .nil)))
def c3 : Con := cLaw [.agg zoneK, .k i64, .k i64] [0, 0, 0]
set_option maxRecDepth 100000 in
set_option maxHeartbeats 4000000 in
theorem k3 : ConsOk Try.prog ((3, c3) :: cons3) := by
  refine kk.of follows names (by kernel_rfl) 200 (T := tReads) (by kernel_rfl) fun ds hp hn => ?_
  unfold tReads
  obtain ⟨x0a, x0b, x0c, x0d, x0e, x0f, x1, x2, rfl⟩ : ∃ x0a x0b x0c x0d x0e x0f x1 x2 : Int, ds = [.l [.i x0a, .i x0b, .i x0c, .i x0d, .i x0e, .i x0f], .i x1, .i x2] := ⟨_, _, _, _, _, _, _, _, hn.symm⟩
  have hp : lawPre _ _ _ = true := hp
  simp only [lawPre, wfs, wfSh, wfL, wfK, zoneK, i64, List.headD_cons, List.tail_cons, D.toI_i, D.toL_l, wf_i64, capped, Bool.and_eq_true, and_true] at hp
  simp only [VC_br, VC_ret, VC_must, vc0_C, vc0_R, BT_b, BF_b, BT_lt, BF_lt, BT_le, BF_le, BT_eq, BF_eq, BT_eqb, BF_eqb, BT_not, BF_not, BT_and, BF_and, B_get, B_v, B_co, I_i, I_v, I_get, I_wrap, I_add, I_sub, den_v, den_i, den_get, den_cons, den_nil, den_b, den_co, den_eq, den_le, den_lt, den_wrap, den_add, den_sub, den_mul, den_len, Sh.norm, normK, normL, D.toB_b, D.toI_i, D.toL_l, norms, List.headD_cons, List.tail_cons, wrap_i64, ρof_get, List.cons.injEq, D.b.injEq, and_true, tReadse0, tReadse1, tReadse2, tReadse3, tReadse4, tReadse5,  c3, cLaw, den_call con19, den_call con12, den_call con8, fldD_0, fldD_s, fld_def, fMay, fTrue, mayD_def, mayZ_T, mayZ_F]
  repeat' (first | (apply vc_and <;> intro _) | (apply vc_must; rotate_left; intro _; rotate_right))
  all_goals first | trivial | contradiction | omega
end Z
