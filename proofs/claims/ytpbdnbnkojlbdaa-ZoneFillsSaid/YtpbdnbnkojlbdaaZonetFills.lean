/- A part of the proof: see the law's own text. Conditions: none. -/
import Derived.Test.YtpbdnbnkojlbdaaZone1
import Derived.Test.YtpbdnbnkojlbdaaAm41
set_option linter.unusedVariables false
set_option linter.unusedSimpArgs false
namespace Z
open Go Go.AM Go.Proofs
theorem ovin (ρ d : Nat → D) (i : Nat) : overR ρ 10 3 d (10 + i) = if i < 3 then d (10 + i) else ρ (10 + i) := by
  unfold overR
  by_cases h : i < 3
  · rw [if_pos h, if_pos (by omega)]
  · rw [if_neg h, if_neg (by omega)]
theorem ov10 (ρ d : Nat → D) : overR ρ 10 3 d 10 = d 10 := rfl
theorem ov11 (ρ d : Nat → D) : overR ρ 10 3 d 11 = d 11 := rfl
theorem ov12 (ρ d : Nat → D) : overR ρ 10 3 d 12 = d 12 := rfl
theorem ov0 (ρ d : Nat → D) : overR ρ 10 3 d 0 = ρ 0 := rfl
theorem ov1 (ρ d : Nat → D) : overR ρ 10 3 d 1 = ρ 1 := rfl
theorem ov2 (ρ d : Nat → D) : overR ρ 10 3 d 2 = ρ 2 := rfl
theorem su10 (C : FuncId → Option Con) (ρ : Nat → D) (a b c : X) : subR C ρ [(10, a), (11, b), (12, c)] 10 = a.den C ρ := rfl
theorem su11 (C : FuncId → Option Con) (ρ : Nat → D) (a b c : X) : subR C ρ [(10, a), (11, b), (12, c)] 11 = b.den C ρ := rfl
theorem su12 (C : FuncId → Option Con) (ρ : Nat → D) (a b c : X) : subR C ρ [(10, a), (11, b), (12, c)] 12 = c.den C ρ := rfl
def tFillse0 : X := (.cons (.co (.k .bool) (.lt (.i 300) (.v 0))) .nil)
def tFillse1 : X := (.get (.call 19 (.cons (.co (.agg [(.int .i64), (.int .i64), (.int .i64), (.int .i64), (.int .i64), (.int .i64)]) (.cons (.i 0) (.cons (.i 2) (.cons (.v 11) (.cons (.i 0) (.cons (.v 0) (.cons (.v 12) .nil))))))) .nil)) 0)
def tFillse2 : X := (.wrap .i64 (.sub (.v 0) (.v 10)))
def tFillse3 : X := (.eq (.i 0) tFillse2)
def tFillse4 : X := (.wrap .i64 (.add (.v 12) (.i 1)))
def tFillse5 : X := (.eq tFillse4 (.v 0))
def tFillse6 : X := (.wrap .i64 (.sub (.v 0) (.v 12)))
def tFillse7 : X := (.eq tFillse6 (.i 0))
def tFillse8 : X := (.eq tFillse6 tFillse2)
def tFillse9 : X := (.lt (.v 10) (.wrap .i64 (.v 0)))
def tFillse10 : X := (.le (.i 1) (.wrap .i64 (.sub (.wrap .i64 (.v 0)) (.v 10))))
def tFillse11 : X := (.eq (.v 10) (.wrap .i64 (.v 12)))
def tFillse12 : X := (.wrap .i64 (.sub (.v 0) (.i 1)))
def tFillse13 : X := (.lt (.v 10) tFillse12)
def tFillse14 : X := (.wrap .i64 (.add (.v 10) (.i 1)))
def tFillse15 : X := (.eq (.wrap .i64 (.v 12)) (.v 10))
def tFillse16 : X := (.lt (.i 0) (.wrap .i64 (.v 0)))
def tFillse17 : X := (.le (.v 0) (.wrap .i64 (.wrap .i64 (.v 0))))
def tFillse18 : X := (.lt (.wrap .i64 (.wrap .i64 (.v 12))) (.v 0))
def tFillse19 : X := (.le (.i 0) tFillse12)
def tFillse20 : X := (.lt tFillse12 (.wrap .i64 (.v 0)))
def tFillse21 : X := (.le (.i 1) (.wrap .i64 (.sub (.wrap .i64 (.v 0)) tFillse12)))
def tFillse22 : X := (.eq tFillse12 (.wrap .i64 (.v 12)))
def tFills : Tree := (.br (.get (.call 19 (.cons (.co (.agg [(.int .i64), (.int .i64), (.int .i64), (.int .i64), (.int .i64), (.int .i64)]) (.cons (.i 0) (.cons (.i 2) (.cons (.i 1) (.cons (.i 0) (.cons (.v 0) (.cons (.i 0) .nil))))))) .nil)) 0)
 (.br (.get (.call 8 .nil) 0)
  (.br (.lt (.i 300) (.v 0))
   (.br (.lt (.v 0) (.i 1))
    (.ret (.cons (.b true) .nil))
    (.ret tFillse0))
   (.br (.v 1)
    (.loop 0 10 3 [(10, (.i 0)), (11, (.i 3)), (12, (.i 0))]
     (.br (.lt (.v 10) (.v 0))
     (.br (.eq (.v 11) (.i 5))
      (.ret (.cons (.b false) .nil))
      (.br tFillse1
       (.br (.eq (.v 11) (.i 6))
        (.br (.eq (.i (-1)) (.v 10))
         (.br tFillse3
          (.br tFillse5
           (.ret (.cons (.b false) .nil))
           (.br (.eq (.v 11) (.i 3))
            (.ret (.cons (.b false) .nil))
            (.ret (.cons (.b false) .nil))))
          (.ret (.cons (.b false) .nil)))
         (.ret (.cons (.b false) .nil)))
        (.br (.eq (.v 11) (.i 7))
         (.br (.eq (.i (-1)) (.v 10))
          (.br tFillse3
           (.br tFillse5
            (.ret (.cons (.b false) .nil))
            (.br (.eq (.v 11) (.i 3))
             (.ret (.cons (.b false) .nil))
             (.ret (.cons (.b false) .nil))))
           (.ret (.cons (.b false) .nil)))
          (.ret (.cons (.b false) .nil)))
         (.br tFillse7
          (.br (.eq (.i (-1)) (.v 10))
           (.br tFillse8
            (.br (.le (.i 0) (.v 10))
             (.br tFillse9
              (.br tFillse10
               (.br tFillse11
                (.br tFillse5
                 (.br tFillse13
                  (.br (.eqb (.v 1) (.b false))
                   (.again 0 10 3 [(10, tFillse14), (11, (.i 5)), (12, tFillse4)])
                   (.ret (.cons (.b false) .nil)))
                  (.again 0 10 3 [(10, tFillse14), (11, (.i 5)), (12, tFillse4)]))
                 (.br (.eq (.v 11) (.i 3))
                  (.br tFillse13
                   (.again 0 10 3 [(10, tFillse14), (11, (.i 3)), (12, tFillse4)])
                   (.again 0 10 3 [(10, tFillse14), (11, (.i 3)), (12, tFillse4)]))
                  (.br tFillse13
                   (.br (.eqb (.v 1) (.b false))
                    (.again 0 10 3 [(10, tFillse14), (11, (.i 2)), (12, tFillse4)])
                    (.ret (.cons (.b false) .nil)))
                   (.again 0 10 3 [(10, tFillse14), (11, (.i 2)), (12, tFillse4)]))))
                (.br tFillse5
                 (.ret (.cons (.b false) .nil))
                 (.br (.eq (.v 11) (.i 3))
                  (.ret (.cons (.b false) .nil))
                  (.ret (.cons (.b false) .nil)))))
               (.br tFillse5
                (.ret (.cons (.b false) .nil))
                (.br (.eq (.v 11) (.i 3))
                 (.ret (.cons (.b false) .nil))
                 (.ret (.cons (.b false) .nil)))))
              (.br tFillse5
               (.ret (.cons (.b false) .nil))
               (.br (.eq (.v 11) (.i 3))
                (.ret (.cons (.b false) .nil))
                (.ret (.cons (.b false) .nil)))))
             (.br tFillse5
              (.ret (.cons (.b false) .nil))
              (.br (.eq (.v 11) (.i 3))
               (.ret (.cons (.b false) .nil))
               (.ret (.cons (.b false) .nil)))))
            (.ret (.cons (.b false) .nil)))
           (.ret (.cons (.b false) .nil)))
          (.br tFillse15
           (.br tFillse8
            (.br (.le (.i 0) (.v 10))
             (.br tFillse9
              (.br tFillse10
               (.br tFillse11
                (.br tFillse5
                 (.br tFillse13
                  (.br (.eqb (.v 1) (.b false))
                   (.again 0 10 3 [(10, tFillse14), (11, (.i 5)), (12, tFillse4)])
                   (.ret (.cons (.b false) .nil)))
                  (.again 0 10 3 [(10, tFillse14), (11, (.i 5)), (12, tFillse4)]))
                 (.br (.eq (.v 11) (.i 3))
                  (.br tFillse13
                   (.again 0 10 3 [(10, tFillse14), (11, (.i 3)), (12, tFillse4)])
                   (.again 0 10 3 [(10, tFillse14), (11, (.i 3)), (12, tFillse4)]))
                  (.br tFillse13
                   (.br (.eqb (.v 1) (.b false))
                    (.again 0 10 3 [(10, tFillse14), (11, (.i 2)), (12, tFillse4)])
                    (.ret (.cons (.b false) .nil)))
                   (.again 0 10 3 [(10, tFillse14), (11, (.i 2)), (12, tFillse4)]))))
                (.br tFillse5
                 (.ret (.cons (.b false) .nil))
                 (.br (.eq (.v 11) (.i 3))
                  (.ret (.cons (.b false) .nil))
                  (.ret (.cons (.b false) .nil)))))
               (.br tFillse5
                (.ret (.cons (.b false) .nil))
                (.br (.eq (.v 11) (.i 3))
                 (.ret (.cons (.b false) .nil))
                 (.ret (.cons (.b false) .nil)))))
              (.br tFillse5
               (.ret (.cons (.b false) .nil))
               (.br (.eq (.v 11) (.i 3))
                (.ret (.cons (.b false) .nil))
                (.ret (.cons (.b false) .nil)))))
             (.br tFillse5
              (.ret (.cons (.b false) .nil))
              (.br (.eq (.v 11) (.i 3))
               (.ret (.cons (.b false) .nil))
               (.ret (.cons (.b false) .nil)))))
            (.ret (.cons (.b false) .nil)))
           (.ret (.cons (.b false) .nil))))))
       (.br (.eq (.i (-1)) (.v 10))
        (.br tFillse3
         (.br tFillse5
          (.ret (.cons (.b false) .nil))
          (.br (.eq (.v 11) (.i 3))
           (.ret (.cons (.b false) .nil))
           (.ret (.cons (.b false) .nil))))
         (.ret (.cons (.b false) .nil)))
        (.ret (.cons (.b false) .nil)))))
     (.br tFillse1
      (.br (.eq (.v 11) (.i 6))
       (.br tFillse5
        (.br (.eq (.v 11) (.i 5))
         (.br (.lt (.v 0) (.i 1))
          (.ret (.cons (.b false) .nil))
          (.br (.eq (.v 11) (.i 7))
           (.ret (.cons (.b false) .nil))
           (.br tFillse16
            (.br tFillse17
             (.br tFillse18
              (.ret (.cons (.b false) .nil))
              (.ret (.cons (.b true) .nil)))
             (.ret (.cons (.b false) .nil)))
            (.ret (.cons (.b false) .nil)))))
         (.ret (.cons (.b false) .nil)))
        (.br (.eq (.v 11) (.i 3))
         (.br (.eq (.v 11) (.i 5))
          (.br (.lt (.v 0) (.i 1))
           (.ret (.cons (.b false) .nil))
           (.br (.eq (.v 11) (.i 7))
            (.ret (.cons (.b false) .nil))
            (.br tFillse16
             (.br tFillse17
              (.br tFillse18
               (.ret (.cons (.b false) .nil))
               (.ret (.cons (.b true) .nil)))
              (.ret (.cons (.b false) .nil)))
             (.ret (.cons (.b false) .nil)))))
          (.ret (.cons (.b false) .nil)))
         (.br (.eq (.v 11) (.i 5))
          (.br (.lt (.v 0) (.i 1))
           (.ret (.cons (.b false) .nil))
           (.br (.eq (.v 11) (.i 7))
            (.ret (.cons (.b false) .nil))
            (.br tFillse16
             (.br tFillse17
              (.br tFillse18
               (.ret (.cons (.b false) .nil))
               (.ret (.cons (.b true) .nil)))
              (.ret (.cons (.b false) .nil)))
             (.ret (.cons (.b false) .nil)))))
          (.ret (.cons (.b false) .nil)))))
       (.br (.eq (.v 11) (.i 7))
        (.br tFillse5
         (.br (.eq (.v 11) (.i 5))
          (.br (.lt (.v 0) (.i 1))
           (.ret (.cons (.b false) .nil))
           (.ret (.cons (.b false) .nil)))
          (.ret (.cons (.b false) .nil)))
         (.br (.eq (.v 11) (.i 3))
          (.br (.eq (.v 11) (.i 5))
           (.br (.lt (.v 0) (.i 1))
            (.ret (.cons (.b false) .nil))
            (.ret (.cons (.b false) .nil)))
           (.ret (.cons (.b false) .nil)))
          (.br (.eq (.v 11) (.i 5))
           (.br (.lt (.v 0) (.i 1))
            (.ret (.cons (.b false) .nil))
            (.ret (.cons (.b false) .nil)))
           (.ret (.cons (.b false) .nil)))))
        (.br (.eq (.v 11) (.i 5))
         (.br tFillse5
          (.br (.lt (.v 0) (.i 1))
           (.ret (.cons (.b false) .nil))
           (.br tFillse16
            (.br tFillse17
             (.br tFillse18
              (.ret (.cons (.b false) .nil))
              (.ret (.cons (.b true) .nil)))
             (.ret (.cons (.b false) .nil)))
            (.ret (.cons (.b false) .nil))))
          (.br (.eq (.v 11) (.i 3))
           (.br (.lt (.v 0) (.i 1))
            (.ret (.cons (.b false) .nil))
            (.br tFillse16
             (.br tFillse17
              (.br tFillse18
               (.ret (.cons (.b false) .nil))
               (.ret (.cons (.b true) .nil)))
              (.ret (.cons (.b false) .nil)))
             (.ret (.cons (.b false) .nil))))
           (.br (.lt (.v 0) (.i 1))
            (.ret (.cons (.b false) .nil))
            (.br tFillse16
             (.br tFillse17
              (.br tFillse18
               (.ret (.cons (.b false) .nil))
               (.ret (.cons (.b true) .nil)))
              (.ret (.cons (.b false) .nil)))
             (.ret (.cons (.b false) .nil))))))
         (.br tFillse19
          (.br tFillse20
           (.br tFillse21
            (.br tFillse22
             (.br tFillse5
              (.ret (.cons (.b false) .nil))
              (.br (.eq (.v 11) (.i 3))
               (.ret (.cons (.b false) .nil))
               (.ret (.cons (.b false) .nil))))
             (.br tFillse5
              (.ret (.cons (.b false) .nil))
              (.br (.eq (.v 11) (.i 3))
               (.ret (.cons (.b false) .nil))
               (.ret (.cons (.b false) .nil)))))
            (.br tFillse5
             (.ret (.cons (.b false) .nil))
             (.br (.eq (.v 11) (.i 3))
              (.ret (.cons (.b false) .nil))
              (.ret (.cons (.b false) .nil)))))
           (.br tFillse5
            (.ret (.cons (.b false) .nil))
            (.br (.eq (.v 11) (.i 3))
             (.ret (.cons (.b false) .nil))
             (.ret (.cons (.b false) .nil)))))
          (.br tFillse5
           (.ret (.cons (.b false) .nil))
           (.br (.eq (.v 11) (.i 3))
            (.ret (.cons (.b false) .nil))
            (.ret (.cons (.b false) .nil))))))))
      (.br tFillse5
       (.br (.eq (.v 11) (.i 5))
        (.ret (.cons (.b false) .nil))
        (.ret (.cons (.b false) .nil)))
       (.br (.eq (.v 11) (.i 3))
        (.br (.eq (.v 11) (.i 5))
         (.ret (.cons (.b false) .nil))
         (.ret (.cons (.b false) .nil)))
        (.br (.eq (.v 11) (.i 5))
         (.ret (.cons (.b false) .nil))
         (.ret (.cons (.b false) .nil))))))))
    (.loop 0 10 3 [(10, (.i 0)), (11, (.i 1)), (12, (.i 0))]
     (.br (.lt (.v 10) (.v 0))
     (.br (.eq (.v 11) (.i 5))
      (.ret (.cons (.b false) .nil))
      (.br tFillse1
       (.br (.eq (.v 11) (.i 6))
        (.br (.eq (.i (-1)) (.v 10))
         (.br tFillse3
          (.br tFillse5
           (.ret (.cons (.b false) .nil))
           (.br (.eq (.v 11) (.i 3))
            (.ret (.cons (.b false) .nil))
            (.ret (.cons (.b false) .nil))))
          (.ret (.cons (.b false) .nil)))
         (.ret (.cons (.b false) .nil)))
        (.br (.eq (.v 11) (.i 7))
         (.br (.eq (.i (-1)) (.v 10))
          (.br tFillse3
           (.br tFillse5
            (.ret (.cons (.b false) .nil))
            (.br (.eq (.v 11) (.i 3))
             (.ret (.cons (.b false) .nil))
             (.ret (.cons (.b false) .nil))))
           (.ret (.cons (.b false) .nil)))
          (.ret (.cons (.b false) .nil)))
         (.br tFillse7
          (.br (.eq (.i (-1)) (.v 10))
           (.br tFillse8
            (.br (.le (.i 0) (.v 10))
             (.br tFillse9
              (.br tFillse10
               (.br tFillse11
                (.br tFillse5
                 (.br tFillse13
                  (.br (.eqb (.v 1) (.b false))
                   (.again 0 10 3 [(10, tFillse14), (11, (.i 5)), (12, tFillse4)])
                   (.ret (.cons (.b false) .nil)))
                  (.again 0 10 3 [(10, tFillse14), (11, (.i 5)), (12, tFillse4)]))
                 (.br (.eq (.v 11) (.i 3))
                  (.br tFillse13
                   (.ret (.cons (.b false) .nil))
                   (.again 0 10 3 [(10, tFillse14), (11, (.i 3)), (12, tFillse4)]))
                  (.br tFillse13
                   (.br (.eqb (.v 1) (.b false))
                    (.again 0 10 3 [(10, tFillse14), (11, (.i 2)), (12, tFillse4)])
                    (.ret (.cons (.b false) .nil)))
                   (.again 0 10 3 [(10, tFillse14), (11, (.i 2)), (12, tFillse4)]))))
                (.br tFillse5
                 (.ret (.cons (.b false) .nil))
                 (.br (.eq (.v 11) (.i 3))
                  (.ret (.cons (.b false) .nil))
                  (.ret (.cons (.b false) .nil)))))
               (.br tFillse5
                (.ret (.cons (.b false) .nil))
                (.br (.eq (.v 11) (.i 3))
                 (.ret (.cons (.b false) .nil))
                 (.ret (.cons (.b false) .nil)))))
              (.br tFillse5
               (.ret (.cons (.b false) .nil))
               (.br (.eq (.v 11) (.i 3))
                (.ret (.cons (.b false) .nil))
                (.ret (.cons (.b false) .nil)))))
             (.br tFillse5
              (.ret (.cons (.b false) .nil))
              (.br (.eq (.v 11) (.i 3))
               (.ret (.cons (.b false) .nil))
               (.ret (.cons (.b false) .nil)))))
            (.ret (.cons (.b false) .nil)))
           (.ret (.cons (.b false) .nil)))
          (.br tFillse15
           (.br tFillse8
            (.br (.le (.i 0) (.v 10))
             (.br tFillse9
              (.br tFillse10
               (.br tFillse11
                (.br tFillse5
                 (.br tFillse13
                  (.br (.eqb (.v 1) (.b false))
                   (.again 0 10 3 [(10, tFillse14), (11, (.i 5)), (12, tFillse4)])
                   (.ret (.cons (.b false) .nil)))
                  (.again 0 10 3 [(10, tFillse14), (11, (.i 5)), (12, tFillse4)]))
                 (.br (.eq (.v 11) (.i 3))
                  (.br tFillse13
                   (.ret (.cons (.b false) .nil))
                   (.again 0 10 3 [(10, tFillse14), (11, (.i 3)), (12, tFillse4)]))
                  (.br tFillse13
                   (.br (.eqb (.v 1) (.b false))
                    (.again 0 10 3 [(10, tFillse14), (11, (.i 2)), (12, tFillse4)])
                    (.ret (.cons (.b false) .nil)))
                   (.again 0 10 3 [(10, tFillse14), (11, (.i 2)), (12, tFillse4)]))))
                (.br tFillse5
                 (.ret (.cons (.b false) .nil))
                 (.br (.eq (.v 11) (.i 3))
                  (.ret (.cons (.b false) .nil))
                  (.ret (.cons (.b false) .nil)))))
               (.br tFillse5
                (.ret (.cons (.b false) .nil))
                (.br (.eq (.v 11) (.i 3))
                 (.ret (.cons (.b false) .nil))
                 (.ret (.cons (.b false) .nil)))))
              (.br tFillse5
               (.ret (.cons (.b false) .nil))
               (.br (.eq (.v 11) (.i 3))
                (.ret (.cons (.b false) .nil))
                (.ret (.cons (.b false) .nil)))))
             (.br tFillse5
              (.ret (.cons (.b false) .nil))
              (.br (.eq (.v 11) (.i 3))
               (.ret (.cons (.b false) .nil))
               (.ret (.cons (.b false) .nil)))))
            (.ret (.cons (.b false) .nil)))
           (.ret (.cons (.b false) .nil))))))
       (.br (.eq (.i (-1)) (.v 10))
        (.br tFillse3
         (.br tFillse5
          (.ret (.cons (.b false) .nil))
          (.br (.eq (.v 11) (.i 3))
           (.ret (.cons (.b false) .nil))
           (.ret (.cons (.b false) .nil))))
         (.ret (.cons (.b false) .nil)))
        (.ret (.cons (.b false) .nil)))))
     (.br tFillse1
      (.br (.eq (.v 11) (.i 6))
       (.br tFillse5
        (.br (.eq (.v 11) (.i 5))
         (.br (.lt (.v 0) (.i 1))
          (.ret (.cons (.b false) .nil))
          (.br (.eq (.v 11) (.i 7))
           (.ret (.cons (.b false) .nil))
           (.br tFillse16
            (.br tFillse17
             (.br tFillse18
              (.ret (.cons (.b false) .nil))
              (.ret (.cons (.b true) .nil)))
             (.ret (.cons (.b false) .nil)))
            (.ret (.cons (.b false) .nil)))))
         (.ret (.cons (.b false) .nil)))
        (.br (.eq (.v 11) (.i 3))
         (.br (.eq (.v 11) (.i 5))
          (.br (.lt (.v 0) (.i 1))
           (.ret (.cons (.b false) .nil))
           (.br (.eq (.v 11) (.i 7))
            (.ret (.cons (.b false) .nil))
            (.br tFillse16
             (.br tFillse17
              (.br tFillse18
               (.ret (.cons (.b false) .nil))
               (.ret (.cons (.b true) .nil)))
              (.ret (.cons (.b false) .nil)))
             (.ret (.cons (.b false) .nil)))))
          (.ret (.cons (.b false) .nil)))
         (.br (.eq (.v 11) (.i 5))
          (.br (.lt (.v 0) (.i 1))
           (.ret (.cons (.b false) .nil))
           (.br (.eq (.v 11) (.i 7))
            (.ret (.cons (.b false) .nil))
            (.br tFillse16
             (.br tFillse17
              (.br tFillse18
               (.ret (.cons (.b false) .nil))
               (.ret (.cons (.b true) .nil)))
              (.ret (.cons (.b false) .nil)))
             (.ret (.cons (.b false) .nil)))))
          (.ret (.cons (.b false) .nil)))))
       (.br (.eq (.v 11) (.i 7))
        (.br tFillse5
         (.br (.eq (.v 11) (.i 5))
          (.br (.lt (.v 0) (.i 1))
           (.ret (.cons (.b false) .nil))
           (.ret (.cons (.b false) .nil)))
          (.ret (.cons (.b false) .nil)))
         (.br (.eq (.v 11) (.i 3))
          (.br (.eq (.v 11) (.i 5))
           (.br (.lt (.v 0) (.i 1))
            (.ret (.cons (.b false) .nil))
            (.ret (.cons (.b false) .nil)))
           (.ret (.cons (.b false) .nil)))
          (.br (.eq (.v 11) (.i 5))
           (.br (.lt (.v 0) (.i 1))
            (.ret (.cons (.b false) .nil))
            (.ret (.cons (.b false) .nil)))
           (.ret (.cons (.b false) .nil)))))
        (.br (.eq (.v 11) (.i 5))
         (.br tFillse5
          (.br (.lt (.v 0) (.i 1))
           (.ret (.cons (.b false) .nil))
           (.br tFillse16
            (.br tFillse17
             (.br tFillse18
              (.ret (.cons (.b false) .nil))
              (.ret (.cons (.b true) .nil)))
             (.ret (.cons (.b false) .nil)))
            (.ret (.cons (.b false) .nil))))
          (.br (.eq (.v 11) (.i 3))
           (.br (.lt (.v 0) (.i 1))
            (.ret (.cons (.b false) .nil))
            (.br tFillse16
             (.br tFillse17
              (.br tFillse18
               (.ret (.cons (.b false) .nil))
               (.ret (.cons (.b true) .nil)))
              (.ret (.cons (.b false) .nil)))
             (.ret (.cons (.b false) .nil))))
           (.br (.lt (.v 0) (.i 1))
            (.ret (.cons (.b false) .nil))
            (.br tFillse16
             (.br tFillse17
              (.br tFillse18
               (.ret (.cons (.b false) .nil))
               (.ret (.cons (.b true) .nil)))
              (.ret (.cons (.b false) .nil)))
             (.ret (.cons (.b false) .nil))))))
         (.br tFillse19
          (.br tFillse20
           (.br tFillse21
            (.br tFillse22
             (.br tFillse5
              (.ret (.cons (.b false) .nil))
              (.br (.eq (.v 11) (.i 3))
               (.ret (.cons (.b false) .nil))
               (.ret (.cons (.b false) .nil))))
             (.br tFillse5
              (.ret (.cons (.b false) .nil))
              (.br (.eq (.v 11) (.i 3))
               (.ret (.cons (.b false) .nil))
               (.ret (.cons (.b false) .nil)))))
            (.br tFillse5
             (.ret (.cons (.b false) .nil))
             (.br (.eq (.v 11) (.i 3))
              (.ret (.cons (.b false) .nil))
              (.ret (.cons (.b false) .nil)))))
           (.br tFillse5
            (.ret (.cons (.b false) .nil))
            (.br (.eq (.v 11) (.i 3))
             (.ret (.cons (.b false) .nil))
             (.ret (.cons (.b false) .nil)))))
          (.br tFillse5
           (.ret (.cons (.b false) .nil))
           (.br (.eq (.v 11) (.i 3))
            (.ret (.cons (.b false) .nil))
            (.ret (.cons (.b false) .nil))))))))
      (.br tFillse5
       (.br (.eq (.v 11) (.i 5))
        (.ret (.cons (.b false) .nil))
        (.ret (.cons (.b false) .nil)))
       (.br (.eq (.v 11) (.i 3))
        (.br (.eq (.v 11) (.i 5))
         (.ret (.cons (.b false) .nil))
         (.ret (.cons (.b false) .nil)))
        (.br (.eq (.v 11) (.i 5))
         (.ret (.cons (.b false) .nil))
         (.ret (.cons (.b false) .nil))))))))))
  (.ret (.cons (.b false) .nil)))
 (.br (.get (.call 8 .nil) 0)
  (.br (.lt (.v 0) (.i 1))
   (.ret (.cons (.b true) .nil))
   (.ret tFillse0))
  (.ret (.cons (.b false) .nil))))
def FillsJ (L : Int) (o : Bool) (i st w : Int) : Prop := 1 ≤ L ∧ L ≤ 300 ∧ 0 ≤ i ∧ i ≤ L ∧ w = i ∧
  match o with
  | true => (i = L ∧ st = 5 ∧ 0 < i) ∨ (i < L ∧ st = 3)
  | false => (i = L ∧ st = 5 ∧ 0 < i) ∨ (i < L ∧ ((i = 0 ∧ st = 1) ∨ (0 < i ∧ st = 2)))
theorem FillsJ_t (L i st w : Int) : FillsJ L true i st w = (1 ≤ L ∧ L ≤ 300 ∧ 0 ≤ i ∧ i ≤ L ∧ w = i ∧ ((i = L ∧ st = 5 ∧ 0 < i) ∨ (i < L ∧ st = 3))) := rfl
theorem FillsJ_f (L i st w : Int) : FillsJ L false i st w = (1 ≤ L ∧ L ≤ 300 ∧ 0 ≤ i ∧ i ≤ L ∧ w = i ∧ ((i = L ∧ st = 5 ∧ 0 < i) ∨ (i < L ∧ ((i = 0 ∧ st = 1) ∨ (0 < i ∧ st = 2))))) := rfl
def fillsCut : Nat → Option Cut := fun r => if r = 9 then some { key := 0, lo := 10, cnt := 3, slots := [(7, .var i64 10)], cells := [(2, [.same, .same, .var i64 11, .same, .same, .var i64 12])] } else none
def fillsI (ds : List D) (_ : Nat) (ρ : Nat → D) : Prop := FillsJ (fldD (.l ds) 0).toI (fldD (.l ds) 1).toB (ρ 10).toI (ρ 11).toI (ρ 12).toI
def fillsM (ds : List D) (_ : Nat) (ρ : Nat → D) : Nat := ((fldD (.l ds) 0).toI - (ρ 10).toI).toNat
def c5 : Con := cLaw [.k i64, .k .bool] [0, 0]
set_option maxRecDepth 100000 in
set_option maxHeartbeats 4000000 in
theorem k5 : ConsOk Try.prog ((5, c5) :: cons3) := by
  refine kk.ofC follows names (by kernel_rfl) fillsCut 200 (T := tFills) (by kernel_rfl) fillsI fillsM fun ds hp hn => ?_
  unfold tFills
  obtain ⟨x0, x1, rfl⟩ : ∃ (x0 : Int) (x1 : Bool), ds = [.i x0, .b x1] := ⟨_, _, hn.symm⟩
  have hp : lawPre _ _ _ = true := hp
  simp only [lawPre, wfs, wfSh, wfL, wfK, i64, List.headD_cons, List.tail_cons, D.toI_i, D.toL_l, wf_i64, capped, Bool.and_eq_true, and_true] at hp
  cases x1
  all_goals
    simp only [VC_loop, VC_again, vcJ_C, vcJ_R, vcJ_J, vcJ_ms, upN_eq, ov10, ov11, ov12, ov0, ov1, ov2, su10, su11, su12, VC_br, VC_ret, VC_must, vc0_C, vc0_R, BT_b, BF_b, BT_lt, BF_lt, BT_le, BF_le, BT_eq, BF_eq, BT_eqb, BF_eqb, BT_not, BF_not, BT_and, BF_and, B_get, B_v, B_co, I_i, I_v, I_get, I_wrap, I_add, I_sub, den_v, den_i, den_get, den_cons, den_nil, den_b, den_co, den_eq, den_le, den_lt, den_wrap, den_add, den_sub, den_mul, den_len, Sh.norm, normK, normL, D.toB_b, D.toI_i, D.toL_l, norms, List.headD_cons, List.tail_cons, wrap_i64, ρof_get, List.cons.injEq, D.b.injEq, and_true, tFillse0, tFillse1, tFillse2, tFillse3, tFillse4, tFillse5, tFillse6, tFillse7, tFillse8, tFillse9, tFillse10, tFillse11, tFillse12, tFillse13, tFillse14, tFillse15, tFillse16, tFillse17, tFillse18, tFillse19, tFillse20, tFillse21, tFillse22,  c5, cLaw, den_call con19, den_call con12, den_call con8, fldD_0, fldD_s, fld_def, fMay, fTrue, mayD_def, mayZ_T, mayZ_F, fillsI, fillsM, FillsJ_t, FillsJ_f, true_and, true_or, or_true, false_or, or_false, false_and, and_false]
    repeat' (first | (apply vc_and <;> intro _) | (apply vc_must; rotate_left; intro _; rotate_right) | (apply vc_loop; rotate_left; intro _ _; rotate_right))
    all_goals first | trivial | contradiction | omega
end Z
