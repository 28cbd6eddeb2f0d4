/- A part of the proof: see the law's own text. Conditions: none. -/
import Derived.Test.YtpbdnbnkojlbdaaAm36
import Derived.Test.YtpbdnbnkojlbdaaProg
import Derived.KernelRfl
set_option linter.unusedVariables false
set_option linter.unusedSimpArgs false
namespace Z
open Go Go.AM Go.Proofs
theorem follows : Try.prog.follows .mixedOrders = true := by kernel_rfl
theorem names : namesOk Try.prog = true := by kernel_rfl
def i64 : K := .int .i64
def zoneK : List K := [i64, i64, i64, i64, i64, i64]
abbrev SeqP (st le wr : Int) : Prop :=
  (st = 1 ∧ wr = 0) ∨ ((st = 2 ∨ st = 3) ∧ 0 ≤ wr ∧ wr < le) ∨ (st = 4 ∧ 1 ≤ wr ∧ wr < le) ∨ ((st = 5 ∨ st = 6 ∨ st = 7) ∧ 0 ≤ wr ∧ wr ≤ le)
/-- a zone that may be -/
abbrev MayP (nu ki st sa le wr : Int) : Prop :=
  0 ≤ nu ∧ nu ≤ 255 ∧ 1 ≤ le ∧ le ≤ 4096 ∧ 0 ≤ sa ∧ sa ≤ 1048576 ∧
  ((ki = 1 ∧ wr = 0 ∧ (st = 0 ∨ st = 6 ∨ st = 7)) ∨ (ki = 2 ∧ SeqP st le wr))
def mayZ (nu ki st sa le wr : Int) : Bool := decide (MayP nu ki st sa le wr)
def mayD (d : D) : Bool := mayZ (fld d 0) (fld d 1) (fld d 2) (fld d 3) (fld d 4) (fld d 5)
theorem mayD_def (d : D) : mayD d = mayZ (fld d 0) (fld d 1) (fld d 2) (fld d 3) (fld d 4) (fld d 5) := rfl
theorem mayZ_T (a b c d e f : Int) : (mayZ a b c d e f = true) = MayP a b c d e f := decide_eq_true_eq
theorem mayZ_F (a b c d e f : Int) : (mayZ a b c d e f = false) = ¬ MayP a b c d e f := propext decide_eq_false_iff_not
def cMay : Con := { ins := [.agg zoneK], outs := [.k .bool], pre := fun _ => true, f := fun ds => [.b (mayD (ds.headD default))], tot := true }
set_option maxRecDepth 100000 in
theorem k8 : ConsOk Try.prog [(8, cTrue)] := ConsOk.closed follows names (ConsOk.nil _) 100 (by kernel_rfl)
theorem head_fld (ds : List D) : ds.headD default = fldD (.l ds) 0 := by cases ds <;> rfl
def tMaye0 : X := (.cons (.co (.k .bool) (.le (.get (.v 0) 5) (.wrap .i64 (.sub (.get (.v 0) 4) (.i 1))))) .nil)
def tMaye1 : X := (.cons (.co (.k .bool) (.le (.get (.v 0) 5) (.get (.v 0) 4))) .nil)
def tMay : Tree := (.br (.lt (.get (.v 0) 0) (.i 0))
 (.ret (.cons (.b false) .nil))
 (.br (.le (.i 256) (.get (.v 0) 0))
  (.ret (.cons (.b false) .nil))
  (.br (.lt (.get (.v 0) 4) (.i 1))
   (.ret (.cons (.b false) .nil))
   (.br (.lt (.i 4096) (.get (.v 0) 4))
    (.ret (.cons (.b false) .nil))
    (.br (.lt (.get (.v 0) 3) (.i 0))
     (.ret (.cons (.b false) .nil))
     (.br (.lt (.i 1048576) (.get (.v 0) 3))
      (.ret (.cons (.b false) .nil))
      (.br (.eq (.get (.v 0) 1) (.i 1))
       (.br (.eq (.get (.v 0) 5) (.i 0))
        (.br (.eq (.get (.v 0) 2) (.i 0))
         (.ret (.cons (.b true) .nil))
         (.br (.eq (.get (.v 0) 2) (.i 6))
          (.ret (.cons (.b true) .nil))
          (.ret (.cons (.co (.k .bool) (.eq (.get (.v 0) 2) (.i 7))) .nil))))
        (.ret (.cons (.b false) .nil)))
       (.br (.eq (.get (.v 0) 1) (.i 2))
        (.br (.eq (.get (.v 0) 2) (.i 1))
         (.br (.le (.i 0) (.get (.v 0) 5))
          (.ret (.cons (.co (.k .bool) (.le (.get (.v 0) 5) (.i 0))) .nil))
          (.ret (.cons (.b false) .nil)))
         (.br (.eq (.get (.v 0) 2) (.i 4))
          (.br (.le (.i 1) (.get (.v 0) 5))
           (.ret tMaye0)
           (.ret (.cons (.b false) .nil)))
          (.br (.eq (.get (.v 0) 2) (.i 2))
           (.br (.le (.i 0) (.get (.v 0) 5))
            (.ret tMaye0)
            (.ret (.cons (.b false) .nil)))
           (.br (.eq (.get (.v 0) 2) (.i 3))
            (.br (.le (.i 0) (.get (.v 0) 5))
             (.ret tMaye0)
             (.ret (.cons (.b false) .nil)))
            (.br (.eq (.get (.v 0) 2) (.i 5))
             (.br (.le (.i 0) (.get (.v 0) 5))
              (.ret tMaye1)
              (.ret (.cons (.b false) .nil)))
             (.br (.eq (.get (.v 0) 2) (.i 6))
              (.br (.le (.i 0) (.get (.v 0) 5))
               (.ret tMaye1)
               (.ret (.cons (.b false) .nil)))
              (.br (.eq (.get (.v 0) 2) (.i 7))
               (.br (.le (.i 0) (.get (.v 0) 5))
                (.ret tMaye1)
                (.ret (.cons (.b false) .nil)))
               (.ret (.cons (.b false) .nil)))))))))
        (.ret (.cons (.b false) .nil))))))))))
set_option maxRecDepth 100000 in
theorem k19 : ConsOk Try.prog ((19, cMay) :: [(8, cTrue)]) := by
  refine k8.of follows names (by kernel_rfl) 200 (T := tMay) (by kernel_rfl) fun ds _ _ => ?_
  unfold tMay
  simp only [VC_br, VC_ret, VC_must, vc0_C, vc0_R, BT_b, BF_b, BT_lt, BF_lt, BT_le, BF_le, BT_eq, BF_eq, BT_eqb, BF_eqb, BT_not, BF_not, BT_and, BF_and, B_get, B_v, B_co, I_i, I_v, I_get, I_wrap, I_add, I_sub, den_v, den_i, den_get, den_cons, den_nil, den_b, den_co, den_eq, den_le, den_lt, den_wrap, den_add, den_sub, den_mul, den_len, Sh.norm, normK, normL, D.toB_b, D.toI_i, D.toL_l, norms, List.headD_cons, List.tail_cons, wrap_i64, ρof_get, List.cons.injEq, D.b.injEq, and_true, tMaye0, tMaye1,  cMay, head_fld, mayD_def, mayZ_T, mayZ_F, Bool.false_eq, Bool.true_eq]
  repeat' (first | (apply vc_and <;> intro _) | (apply vc_must; rotate_left; intro _; rotate_right))
  all_goals first | omega | (rw [Bool.eq_iff_iff]; simp only [BT_le, BT_lt, BT_eq, I_i, I_get, I_wrap, I_sub, den_v, mayZ_T, wrap_i64, ρof_get]; omega)
def tRMaye0 : X := (.cons (.co (.k .bool) (.lt (.get (.v 0) 5) (.get (.v 0) 4))) .nil)
def tRMaye1 : X := (.cons (.co (.k .bool) (.le (.get (.v 0) 5) (.get (.v 0) 4))) .nil)
def tRMay : Tree := (.br (.lt (.get (.v 0) 0) (.i 0))
 (.ret (.cons (.b false) .nil))
 (.br (.lt (.i 255) (.get (.v 0) 0))
  (.ret (.cons (.b false) .nil))
  (.br (.lt (.get (.v 0) 4) (.i 1))
   (.ret (.cons (.b false) .nil))
   (.br (.lt (.i 4096) (.get (.v 0) 4))
    (.ret (.cons (.b false) .nil))
    (.br (.lt (.get (.v 0) 3) (.i 0))
     (.ret (.cons (.b false) .nil))
     (.br (.lt (.i 1048576) (.get (.v 0) 3))
      (.ret (.cons (.b false) .nil))
      (.br (.eq (.get (.v 0) 1) (.i 1))
       (.br (.eq (.get (.v 0) 5) (.i 0))
        (.br (.eq (.get (.v 0) 2) (.i 0))
         (.ret (.cons (.b true) .nil))
         (.br (.eq (.get (.v 0) 2) (.i 6))
          (.ret (.cons (.b true) .nil))
          (.ret (.cons (.co (.k .bool) (.eq (.get (.v 0) 2) (.i 7))) .nil))))
        (.ret (.cons (.b false) .nil)))
       (.br (.eq (.get (.v 0) 1) (.i 2))
        (.br (.eq (.get (.v 0) 2) (.i 1))
         (.ret (.cons (.co (.k .bool) (.eq (.get (.v 0) 5) (.i 0))) .nil))
         (.br (.eq (.get (.v 0) 2) (.i 2))
          (.br (.le (.i 0) (.get (.v 0) 5))
           (.ret tRMaye0)
           (.ret (.cons (.b false) .nil)))
          (.br (.eq (.get (.v 0) 2) (.i 3))
           (.br (.le (.i 0) (.get (.v 0) 5))
            (.ret tRMaye0)
            (.ret (.cons (.b false) .nil)))
           (.br (.eq (.get (.v 0) 2) (.i 4))
            (.br (.le (.i 1) (.get (.v 0) 5))
             (.ret tRMaye0)
             (.ret (.cons (.b false) .nil)))
            (.br (.eq (.get (.v 0) 2) (.i 5))
             (.br (.le (.i 0) (.get (.v 0) 5))
              (.ret tRMaye1)
              (.ret (.cons (.b false) .nil)))
             (.br (.eq (.get (.v 0) 2) (.i 6))
              (.br (.le (.i 0) (.get (.v 0) 5))
               (.ret tRMaye1)
               (.ret (.cons (.b false) .nil)))
              (.br (.eq (.get (.v 0) 2) (.i 7))
               (.br (.le (.i 0) (.get (.v 0) 5))
                (.ret tRMaye1)
                (.ret (.cons (.b false) .nil)))
               (.ret (.cons (.b false) .nil)))))))))
        (.ret (.cons (.b false) .nil))))))))))
set_option maxRecDepth 100000 in
theorem k12 : ConsOk Try.prog ((12, cMay) :: [(19, cMay), (8, cTrue)]) := by
  refine k19.of follows names (by kernel_rfl) 200 (T := tRMay) (by kernel_rfl) fun ds _ _ => ?_
  unfold tRMay
  simp only [VC_br, VC_ret, VC_must, vc0_C, vc0_R, BT_b, BF_b, BT_lt, BF_lt, BT_le, BF_le, BT_eq, BF_eq, BT_eqb, BF_eqb, BT_not, BF_not, BT_and, BF_and, B_get, B_v, B_co, I_i, I_v, I_get, I_wrap, I_add, I_sub, den_v, den_i, den_get, den_cons, den_nil, den_b, den_co, den_eq, den_le, den_lt, den_wrap, den_add, den_sub, den_mul, den_len, Sh.norm, normK, normL, D.toB_b, D.toI_i, D.toL_l, norms, List.headD_cons, List.tail_cons, wrap_i64, ρof_get, List.cons.injEq, D.b.injEq, and_true, tRMaye0, tRMaye1,  cMay, head_fld, mayD_def, mayZ_T, mayZ_F, Bool.false_eq, Bool.true_eq]
  repeat' (first | (apply vc_and <;> intro _) | (apply vc_must; rotate_left; intro _; rotate_right))
  all_goals first | omega | (rw [Bool.eq_iff_iff]; simp only [BT_le, BT_lt, BT_eq, I_i, I_get, I_wrap, I_sub, den_v, mayZ_T, wrap_i64, ρof_get]; omega)
def cons3 : Cons := [(12, cMay), (19, cMay), (8, cTrue)]
theorem kk : ConsOk Try.prog cons3 := k12
theorem con19 : conOf cons3 19 = some cMay := rfl
theorem con12 : conOf cons3 12 = some cMay := rfl
theorem con8 : conOf cons3 8 = some cTrue := rfl
theorem fMay (ds : List D) : cMay.f ds = [.b (mayD (ds.headD default))] := rfl
theorem fTrue (ds : List D) : cTrue.f ds = [.b true] := rfl
end Z
