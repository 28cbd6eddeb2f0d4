/- A part of the proof: see the law's own text. Conditions: none. -/
import Derived.Test.YtpbdnbnkojlbdaaZone1
import Derived.Test.YtpbdnbnkojlbdaaAm41
set_option linter.unusedVariables false
set_option linter.unusedSimpArgs false
namespace Z
open Go Go.AM Go.Proofs
theorem ovin (ρ d : Nat → D) (i : Nat) : overR ρ 10 3 d (10 + i) = if i < 3 then d (10 + i) else ρ (10 + i) := by
  unfold overR
  by_cases h : i < 3
  · rw [if_pos h, if_pos (by omega)]
  · rw [if_neg h, if_neg (by omega)]
theorem ov10 (ρ d : Nat → D) : overR ρ 10 3 d 10 = d 10 := rfl
theorem ov11 (ρ d : Nat → D) : overR ρ 10 3 d 11 = d 11 := rfl
theorem ov12 (ρ d : Nat → D) : overR ρ 10 3 d 12 = d 12 := rfl
theorem ov0 (ρ d : Nat → D) : overR ρ 10 3 d 0 = ρ 0 := rfl
theorem ov1 (ρ d : Nat → D) : overR ρ 10 3 d 1 = ρ 1 := rfl
theorem ov2 (ρ d : Nat → D) : overR ρ 10 3 d 2 = ρ 2 := rfl
theorem su10 (C : FuncId → Option Con) (ρ : Nat → D) (a b c : X) : subR C ρ [(10, a), (11, b), (12, c)] 10 = a.den C ρ := rfl
theorem su11 (C : FuncId → Option Con) (ρ : Nat → D) (a b c : X) : subR C ρ [(10, a), (11, b), (12, c)] 11 = b.den C ρ := rfl
theorem su12 (C : FuncId → Option Con) (ρ : Nat → D) (a b c : X) : subR C ρ [(10, a), (11, b), (12, c)] 12 = c.den C ρ := rfl
def tPlayse0 : X := (.cons (.i 100) (.cons (.v 1) (.cons (.i 0) .nil)))
def tPlayse1 : X := (.get (.call 19 (.cons (.co (.agg [(.int .i64), (.int .i64), (.int .i64), (.int .i64), (.int .i64), (.int .i64)]) (.cons (.i 1) (.cons (.v 0) (.cons (.i 1) tPlayse0)))) .nil)) 0)
def tPlayse2 : X := (.eq (.get (.at (.v 2) (.v 10)) 0) (.i 1))
def tPlayse3 : X := (.cons (.i 100) (.cons (.v 1) (.cons (.v 12) .nil)))
def tPlayse4 : X := (.get (.call 19 (.cons (.co (.agg [(.int .i64), (.int .i64), (.int .i64), (.int .i64), (.int .i64), (.int .i64)]) (.cons (.i 1) (.cons (.v 0) (.cons (.v 11) tPlayse3)))) .nil)) 0)
def tPlayse5 : X := (.wrap .i64 (.add (.v 10) (.i 1)))
def tPlayse6 : X := (.get (.call 19 (.cons (.co (.agg [(.int .i64), (.int .i64), (.int .i64), (.int .i64), (.int .i64), (.int .i64)]) (.cons (.i 1) (.cons (.v 0) (.cons (.i 3) tPlayse3)))) .nil)) 0)
def tPlayse7 : X := (.eq (.get (.at (.v 2) (.v 10)) 0) (.i 2))
def tPlayse8 : X := (.get (.call 19 (.cons (.co (.agg [(.int .i64), (.int .i64), (.int .i64), (.int .i64), (.int .i64), (.int .i64)]) (.cons (.i 1) (.cons (.v 0) (.cons (.i 1) tPlayse3)))) .nil)) 0)
def tPlayse9 : X := (.get (.call 19 (.cons (.co (.agg [(.int .i64), (.int .i64), (.int .i64), (.int .i64), (.int .i64), (.int .i64)]) (.cons (.i 1) (.cons (.v 0) (.cons (.i 4) tPlayse3)))) .nil)) 0)
def tPlayse10 : X := (.eq (.get (.at (.v 2) (.v 10)) 0) (.i 3))
def tPlayse11 : X := (.get (.call 19 (.cons (.co (.agg [(.int .i64), (.int .i64), (.int .i64), (.int .i64), (.int .i64), (.int .i64)]) (.cons (.i 1) (.cons (.v 0) (.cons (.i 5) tPlayse3)))) .nil)) 0)
def tPlayse12 : X := (.eq (.get (.at (.v 2) (.v 10)) 0) (.i 4))
def tPlayse13 : X := (.eq (.get (.at (.v 2) (.v 10)) 0) (.i 5))
def tPlayse14 : X := (.eq (.get (.at (.v 2) (.v 10)) 1) (.wrap .i64 (.add (.i 100) (.v 12))))
def tPlayse15 : X := (.wrap .i64 (.add (.v 12) (.get (.at (.v 2) (.v 10)) 2)))
def tPlayse16 : X := (.eq (.i 0) tPlayse15)
def tPlayse17 : X := (.lt (.get (.at (.v 2) (.v 10)) 2) (.i 1))
def tPlayse18 : X := (.eq tPlayse15 (.v 1))
def tPlayse19 : X := (.le (.i 100) (.get (.at (.v 2) (.v 10)) 1))
def tPlayse20 : X := (.wrap .i64 (.add (.i 100) (.v 1)))
def tPlayse21 : X := (.lt (.get (.at (.v 2) (.v 10)) 1) tPlayse20)
def tPlayse22 : X := (.le (.get (.at (.v 2) (.v 10)) 2) (.wrap .i64 (.sub tPlayse20 (.get (.at (.v 2) (.v 10)) 1))))
def tPlayse23 : X := (.cons (.i 100) (.cons (.v 1) (.cons tPlayse15 .nil)))
def tPlayse24 : X := (.get (.call 19 (.cons (.co (.agg [(.int .i64), (.int .i64), (.int .i64), (.int .i64), (.int .i64), (.int .i64)]) (.cons (.i 1) (.cons (.v 0) (.cons (.i 5) tPlayse23)))) .nil)) 0)
def tPlayse25 : X := (.lt tPlayse15 (.v 12))
def tPlayse26 : X := (.lt (.v 12) tPlayse15)
def tPlayse27 : X := (.get (.call 19 (.cons (.co (.agg [(.int .i64), (.int .i64), (.int .i64), (.int .i64), (.int .i64), (.int .i64)]) (.cons (.i 1) (.cons (.v 0) (.cons (.i 3) tPlayse23)))) .nil)) 0)
def tPlayse28 : X := (.get (.call 19 (.cons (.co (.agg [(.int .i64), (.int .i64), (.int .i64), (.int .i64), (.int .i64), (.int .i64)]) (.cons (.i 1) (.cons (.v 0) (.cons (.i 2) tPlayse23)))) .nil)) 0)
def tPlayse29 : X := (.eq (.get (.at (.v 2) (.v 10)) 2) (.i 6))
def tPlayse30 : X := (.eq (.v 11) (.get (.at (.v 2) (.v 10)) 2))
def tPlayse31 : X := (.get (.call 19 (.cons (.co (.agg [(.int .i64), (.int .i64), (.int .i64), (.int .i64), (.int .i64), (.int .i64)]) (.cons (.i 1) (.cons (.v 0) (.cons (.get (.at (.v 2) (.v 10)) 2) tPlayse3)))) .nil)) 0)
def tPlayse32 : X := (.eq (.get (.at (.v 2) (.v 10)) 2) (.i 7))
def tPlays : Tree := (.br (.eq (.v 0) (.i 2))
 (.br tPlayse1
  (.br (.get (.call 8 .nil) 0)
   (.loop 0 10 3 [(10, (.i 0)), (11, (.i 1)), (12, (.i 0))]
    (.br (.lt (.v 10) (.len (.v 2)))
    (.br (.lt (.v 10) (.i 200))
     (.must (.le (.i 0) (.v 10))
      (.br tPlayse2
      (.br tPlayse4
       (.br (.eq (.v 0) (.i 1))
        (.again 0 10 3 [(10, tPlayse5), (11, (.v 11)), (12, (.v 12))])
        (.br (.eq (.v 11) (.i 6))
         (.again 0 10 3 [(10, tPlayse5), (11, (.v 11)), (12, (.v 12))])
         (.br (.eq (.v 11) (.i 7))
          (.again 0 10 3 [(10, tPlayse5), (11, (.v 11)), (12, (.v 12))])
          (.br (.eq (.v 11) (.i 5))
           (.again 0 10 3 [(10, tPlayse5), (11, (.v 11)), (12, (.v 12))])
           (.br tPlayse6
            (.again 0 10 3 [(10, tPlayse5), (11, (.i 3)), (12, (.v 12))])
            (.ret (.cons (.b false) .nil)))))))
       (.again 0 10 3 [(10, tPlayse5), (11, (.v 11)), (12, (.v 12))]))
      (.br tPlayse7
       (.br tPlayse4
        (.br (.eq (.v 0) (.i 1))
         (.br (.eq (.v 12) (.i 0))
          (.again 0 10 3 [(10, tPlayse5), (11, (.v 11)), (12, (.v 12))])
          (.again 0 10 3 [(10, tPlayse5), (11, (.v 11)), (12, (.v 12))]))
         (.br (.eq (.v 11) (.i 6))
          (.br (.eq (.v 12) (.i 0))
           (.again 0 10 3 [(10, tPlayse5), (11, (.v 11)), (12, (.v 12))])
           (.again 0 10 3 [(10, tPlayse5), (11, (.v 11)), (12, (.v 12))]))
          (.br (.eq (.v 11) (.i 7))
           (.br (.eq (.v 12) (.i 0))
            (.again 0 10 3 [(10, tPlayse5), (11, (.v 11)), (12, (.v 12))])
            (.again 0 10 3 [(10, tPlayse5), (11, (.v 11)), (12, (.v 12))]))
           (.br (.eq (.v 11) (.i 2))
            (.br (.eq (.v 12) (.i 0))
             (.br tPlayse8
              (.again 0 10 3 [(10, tPlayse5), (11, (.i 1)), (12, (.v 12))])
              (.ret (.cons (.b false) .nil)))
             (.br tPlayse9
              (.again 0 10 3 [(10, tPlayse5), (11, (.i 4)), (12, (.v 12))])
              (.ret (.cons (.b false) .nil))))
            (.br (.eq (.v 11) (.i 3))
             (.br (.eq (.v 12) (.i 0))
              (.br tPlayse8
               (.again 0 10 3 [(10, tPlayse5), (11, (.i 1)), (12, (.v 12))])
               (.ret (.cons (.b false) .nil)))
              (.br tPlayse9
               (.again 0 10 3 [(10, tPlayse5), (11, (.i 4)), (12, (.v 12))])
               (.ret (.cons (.b false) .nil))))
             (.br (.eq (.v 11) (.i 4))
              (.br (.eq (.v 12) (.i 0))
               (.br tPlayse8
                (.again 0 10 3 [(10, tPlayse5), (11, (.i 1)), (12, (.v 12))])
                (.ret (.cons (.b false) .nil)))
               (.br tPlayse9
                (.again 0 10 3 [(10, tPlayse5), (11, (.i 4)), (12, (.v 12))])
                (.ret (.cons (.b false) .nil))))
              (.br (.eq (.v 12) (.i 0))
               (.again 0 10 3 [(10, tPlayse5), (11, (.v 11)), (12, (.v 12))])
               (.again 0 10 3 [(10, tPlayse5), (11, (.v 11)), (12, (.v 12))]))))))))
        (.br (.eq (.v 12) (.i 0))
         (.again 0 10 3 [(10, tPlayse5), (11, (.v 11)), (12, (.v 12))])
         (.again 0 10 3 [(10, tPlayse5), (11, (.v 11)), (12, (.v 12))])))
       (.br tPlayse10
        (.br tPlayse4
         (.br (.eq (.v 0) (.i 1))
          (.again 0 10 3 [(10, tPlayse5), (11, (.v 11)), (12, (.v 12))])
          (.br (.eq (.v 11) (.i 6))
           (.again 0 10 3 [(10, tPlayse5), (11, (.v 11)), (12, (.v 12))])
           (.br (.eq (.v 11) (.i 7))
            (.again 0 10 3 [(10, tPlayse5), (11, (.v 11)), (12, (.v 12))])
            (.br tPlayse11
             (.again 0 10 3 [(10, tPlayse5), (11, (.i 5)), (12, (.v 12))])
             (.ret (.cons (.b false) .nil))))))
         (.again 0 10 3 [(10, tPlayse5), (11, (.v 11)), (12, (.v 12))]))
        (.br tPlayse12
         (.br tPlayse4
          (.br (.eq (.v 0) (.i 1))
           (.again 0 10 3 [(10, tPlayse5), (11, (.v 11)), (12, (.v 12))])
           (.br (.eq (.v 11) (.i 6))
            (.again 0 10 3 [(10, tPlayse5), (11, (.v 11)), (12, (.v 12))])
            (.br (.eq (.v 11) (.i 7))
             (.again 0 10 3 [(10, tPlayse5), (11, (.v 11)), (12, (.v 12))])
             (.br (.lt (.i 0) (.v 12))
              (.br (.lt (.v 12) (.i 0))
               (.br tPlayse13
                (.br tPlayse14
                 (.br tPlayse16
                  (.again 0 10 3 [(10, tPlayse5), (11, (.i 1)), (12, (.i 0))])
                  (.ret (.cons (.b false) .nil)))
                 (.ret (.cons (.b false) .nil)))
                (.ret (.cons (.b false) .nil)))
               (.again 0 10 3 [(10, tPlayse5), (11, (.i 1)), (12, (.i 0))]))
              (.br (.lt (.v 12) (.i 0))
               (.br tPlayse13
                (.br tPlayse14
                 (.br tPlayse16
                  (.again 0 10 3 [(10, tPlayse5), (11, (.i 1)), (12, (.i 0))])
                  (.ret (.cons (.b false) .nil)))
                 (.ret (.cons (.b false) .nil)))
                (.ret (.cons (.b false) .nil)))
               (.again 0 10 3 [(10, tPlayse5), (11, (.i 1)), (12, (.i 0))]))))))
          (.again 0 10 3 [(10, tPlayse5), (11, (.v 11)), (12, (.v 12))]))
         (.br tPlayse13
          (.br tPlayse4
           (.br tPlayse17
            (.br tPlayse18
             (.again 0 10 3 [(10, tPlayse5), (11, (.v 11)), (12, (.v 12))])
             (.br (.eq (.v 11) (.i 3))
              (.again 0 10 3 [(10, tPlayse5), (11, (.v 11)), (12, (.v 12))])
              (.again 0 10 3 [(10, tPlayse5), (11, (.v 11)), (12, (.v 12))])))
            (.br (.eq (.v 11) (.i 6))
             (.br tPlayse18
              (.again 0 10 3 [(10, tPlayse5), (11, (.v 11)), (12, (.v 12))])
              (.br (.eq (.v 11) (.i 3))
               (.again 0 10 3 [(10, tPlayse5), (11, (.v 11)), (12, (.v 12))])
               (.again 0 10 3 [(10, tPlayse5), (11, (.v 11)), (12, (.v 12))])))
             (.br (.eq (.v 11) (.i 7))
              (.br tPlayse18
               (.again 0 10 3 [(10, tPlayse5), (11, (.v 11)), (12, (.v 12))])
               (.br (.eq (.v 11) (.i 3))
                (.again 0 10 3 [(10, tPlayse5), (11, (.v 11)), (12, (.v 12))])
                (.again 0 10 3 [(10, tPlayse5), (11, (.v 11)), (12, (.v 12))])))
              (.br (.eq (.v 11) (.i 5))
               (.br tPlayse18
                (.again 0 10 3 [(10, tPlayse5), (11, (.v 11)), (12, (.v 12))])
                (.br (.eq (.v 11) (.i 3))
                 (.again 0 10 3 [(10, tPlayse5), (11, (.v 11)), (12, (.v 12))])
                 (.again 0 10 3 [(10, tPlayse5), (11, (.v 11)), (12, (.v 12))])))
               (.br tPlayse19
                (.br tPlayse21
                 (.br tPlayse22
                  (.br (.eq (.v 0) (.i 1))
                   (.again 0 10 3 [(10, tPlayse5), (11, (.v 11)), (12, (.v 12))])
                   (.br tPlayse14
                    (.br tPlayse18
                     (.br tPlayse24
                      (.br tPlayse25
                       (.ret (.cons (.b false) .nil))
                       (.br tPlayse26
                        (.again 0 10 3 [(10, tPlayse5), (11, (.i 5)), (12, tPlayse15)])
                        (.again 0 10 3 [(10, tPlayse5), (11, (.i 5)), (12, tPlayse15)])))
                      (.ret (.cons (.b false) .nil)))
                     (.br (.eq (.v 11) (.i 3))
                      (.br tPlayse27
                       (.br tPlayse25
                        (.ret (.cons (.b false) .nil))
                        (.br tPlayse26
                         (.again 0 10 3 [(10, tPlayse5), (11, (.i 3)), (12, tPlayse15)])
                         (.again 0 10 3 [(10, tPlayse5), (11, (.i 3)), (12, tPlayse15)])))
                       (.ret (.cons (.b false) .nil)))
                      (.br tPlayse28
                       (.br tPlayse25
                        (.ret (.cons (.b false) .nil))
                        (.br tPlayse26
                         (.again 0 10 3 [(10, tPlayse5), (11, (.i 2)), (12, tPlayse15)])
                         (.again 0 10 3 [(10, tPlayse5), (11, (.i 2)), (12, tPlayse15)])))
                       (.ret (.cons (.b false) .nil)))))
                    (.br tPlayse18
                     (.again 0 10 3 [(10, tPlayse5), (11, (.v 11)), (12, (.v 12))])
                     (.br (.eq (.v 11) (.i 3))
                      (.again 0 10 3 [(10, tPlayse5), (11, (.v 11)), (12, (.v 12))])
                      (.again 0 10 3 [(10, tPlayse5), (11, (.v 11)), (12, (.v 12))])))))
                  (.br tPlayse18
                   (.again 0 10 3 [(10, tPlayse5), (11, (.v 11)), (12, (.v 12))])
                   (.br (.eq (.v 11) (.i 3))
                    (.again 0 10 3 [(10, tPlayse5), (11, (.v 11)), (12, (.v 12))])
                    (.again 0 10 3 [(10, tPlayse5), (11, (.v 11)), (12, (.v 12))]))))
                 (.br tPlayse18
                  (.again 0 10 3 [(10, tPlayse5), (11, (.v 11)), (12, (.v 12))])
                  (.br (.eq (.v 11) (.i 3))
                   (.again 0 10 3 [(10, tPlayse5), (11, (.v 11)), (12, (.v 12))])
                   (.again 0 10 3 [(10, tPlayse5), (11, (.v 11)), (12, (.v 12))]))))
                (.br tPlayse18
                 (.again 0 10 3 [(10, tPlayse5), (11, (.v 11)), (12, (.v 12))])
                 (.br (.eq (.v 11) (.i 3))
                  (.again 0 10 3 [(10, tPlayse5), (11, (.v 11)), (12, (.v 12))])
                  (.again 0 10 3 [(10, tPlayse5), (11, (.v 11)), (12, (.v 12))]))))))))
           (.br tPlayse18
            (.again 0 10 3 [(10, tPlayse5), (11, (.v 11)), (12, (.v 12))])
            (.br (.eq (.v 11) (.i 3))
             (.again 0 10 3 [(10, tPlayse5), (11, (.v 11)), (12, (.v 12))])
             (.again 0 10 3 [(10, tPlayse5), (11, (.v 11)), (12, (.v 12))]))))
          (.br tPlayse4
           (.br tPlayse29
            (.br (.eq (.v 11) (.i 7))
             (.again 0 10 3 [(10, tPlayse5), (11, (.v 11)), (12, (.v 12))])
             (.br tPlayse30
              (.again 0 10 3 [(10, tPlayse5), (11, (.v 11)), (12, (.v 12))])
              (.br tPlayse31
               (.again 0 10 3 [(10, tPlayse5), (11, (.get (.at (.v 2) (.v 10)) 2)), (12, (.v 12))])
               (.ret (.cons (.b false) .nil)))))
            (.br tPlayse32
             (.br (.eq (.v 11) (.i 7))
              (.again 0 10 3 [(10, tPlayse5), (11, (.v 11)), (12, (.v 12))])
              (.br tPlayse30
               (.again 0 10 3 [(10, tPlayse5), (11, (.v 11)), (12, (.v 12))])
               (.br tPlayse31
                (.again 0 10 3 [(10, tPlayse5), (11, (.get (.at (.v 2) (.v 10)) 2)), (12, (.v 12))])
                (.ret (.cons (.b false) .nil)))))
             (.again 0 10 3 [(10, tPlayse5), (11, (.v 11)), (12, (.v 12))])))
           (.again 0 10 3 [(10, tPlayse5), (11, (.v 11)), (12, (.v 12))]))))))))
     (.ret (.cons (.b true) .nil)))
    (.ret (.cons (.b true) .nil))))
   (.ret (.cons (.b false) .nil)))
  (.br (.get (.call 8 .nil) 0)
   (.ret (.cons (.b true) .nil))
   (.ret (.cons (.b false) .nil))))
 (.br (.get (.call 19 (.cons (.co (.agg [(.int .i64), (.int .i64), (.int .i64), (.int .i64), (.int .i64), (.int .i64)]) (.cons (.i 1) (.cons (.v 0) (.cons (.i 0) tPlayse0)))) .nil)) 0)
  (.br (.get (.call 8 .nil) 0)
   (.loop 0 10 3 [(10, (.i 0)), (11, (.i 0)), (12, (.i 0))]
    (.br (.lt (.v 10) (.len (.v 2)))
    (.br (.lt (.v 10) (.i 200))
     (.must (.le (.i 0) (.v 10))
      (.br tPlayse2
      (.br tPlayse4
       (.br (.eq (.v 0) (.i 1))
        (.again 0 10 3 [(10, tPlayse5), (11, (.v 11)), (12, (.v 12))])
        (.br (.eq (.v 11) (.i 6))
         (.again 0 10 3 [(10, tPlayse5), (11, (.v 11)), (12, (.v 12))])
         (.br (.eq (.v 11) (.i 7))
          (.again 0 10 3 [(10, tPlayse5), (11, (.v 11)), (12, (.v 12))])
          (.br (.eq (.v 11) (.i 5))
           (.again 0 10 3 [(10, tPlayse5), (11, (.v 11)), (12, (.v 12))])
           (.br tPlayse6
            (.again 0 10 3 [(10, tPlayse5), (11, (.i 3)), (12, (.v 12))])
            (.ret (.cons (.b false) .nil)))))))
       (.again 0 10 3 [(10, tPlayse5), (11, (.v 11)), (12, (.v 12))]))
      (.br tPlayse7
       (.br tPlayse4
        (.br (.eq (.v 0) (.i 1))
         (.br (.eq (.v 12) (.i 0))
          (.again 0 10 3 [(10, tPlayse5), (11, (.v 11)), (12, (.v 12))])
          (.again 0 10 3 [(10, tPlayse5), (11, (.v 11)), (12, (.v 12))]))
         (.br (.eq (.v 11) (.i 6))
          (.br (.eq (.v 12) (.i 0))
           (.again 0 10 3 [(10, tPlayse5), (11, (.v 11)), (12, (.v 12))])
           (.again 0 10 3 [(10, tPlayse5), (11, (.v 11)), (12, (.v 12))]))
          (.br (.eq (.v 11) (.i 7))
           (.br (.eq (.v 12) (.i 0))
            (.again 0 10 3 [(10, tPlayse5), (11, (.v 11)), (12, (.v 12))])
            (.again 0 10 3 [(10, tPlayse5), (11, (.v 11)), (12, (.v 12))]))
           (.br (.eq (.v 11) (.i 2))
            (.br (.eq (.v 12) (.i 0))
             (.br tPlayse8
              (.again 0 10 3 [(10, tPlayse5), (11, (.i 1)), (12, (.v 12))])
              (.ret (.cons (.b false) .nil)))
             (.br tPlayse9
              (.again 0 10 3 [(10, tPlayse5), (11, (.i 4)), (12, (.v 12))])
              (.ret (.cons (.b false) .nil))))
            (.br (.eq (.v 11) (.i 3))
             (.br (.eq (.v 12) (.i 0))
              (.br tPlayse8
               (.again 0 10 3 [(10, tPlayse5), (11, (.i 1)), (12, (.v 12))])
               (.ret (.cons (.b false) .nil)))
              (.br tPlayse9
               (.again 0 10 3 [(10, tPlayse5), (11, (.i 4)), (12, (.v 12))])
               (.ret (.cons (.b false) .nil))))
             (.br (.eq (.v 11) (.i 4))
              (.br (.eq (.v 12) (.i 0))
               (.br tPlayse8
                (.again 0 10 3 [(10, tPlayse5), (11, (.i 1)), (12, (.v 12))])
                (.ret (.cons (.b false) .nil)))
               (.br tPlayse9
                (.again 0 10 3 [(10, tPlayse5), (11, (.i 4)), (12, (.v 12))])
                (.ret (.cons (.b false) .nil))))
              (.br (.eq (.v 12) (.i 0))
               (.again 0 10 3 [(10, tPlayse5), (11, (.v 11)), (12, (.v 12))])
               (.again 0 10 3 [(10, tPlayse5), (11, (.v 11)), (12, (.v 12))]))))))))
        (.br (.eq (.v 12) (.i 0))
         (.again 0 10 3 [(10, tPlayse5), (11, (.v 11)), (12, (.v 12))])
         (.again 0 10 3 [(10, tPlayse5), (11, (.v 11)), (12, (.v 12))])))
       (.br tPlayse10
        (.br tPlayse4
         (.br (.eq (.v 0) (.i 1))
          (.again 0 10 3 [(10, tPlayse5), (11, (.v 11)), (12, (.v 12))])
          (.br (.eq (.v 11) (.i 6))
           (.again 0 10 3 [(10, tPlayse5), (11, (.v 11)), (12, (.v 12))])
           (.br (.eq (.v 11) (.i 7))
            (.again 0 10 3 [(10, tPlayse5), (11, (.v 11)), (12, (.v 12))])
            (.br tPlayse11
             (.again 0 10 3 [(10, tPlayse5), (11, (.i 5)), (12, (.v 12))])
             (.ret (.cons (.b false) .nil))))))
         (.again 0 10 3 [(10, tPlayse5), (11, (.v 11)), (12, (.v 12))]))
        (.br tPlayse12
         (.br tPlayse4
          (.br (.eq (.v 0) (.i 1))
           (.again 0 10 3 [(10, tPlayse5), (11, (.v 11)), (12, (.v 12))])
           (.br (.eq (.v 11) (.i 6))
            (.again 0 10 3 [(10, tPlayse5), (11, (.v 11)), (12, (.v 12))])
            (.br (.eq (.v 11) (.i 7))
             (.again 0 10 3 [(10, tPlayse5), (11, (.v 11)), (12, (.v 12))])
             (.br tPlayse1
              (.br (.lt (.i 0) (.v 12))
               (.br (.lt (.v 12) (.i 0))
                (.br tPlayse13
                 (.br tPlayse14
                  (.br tPlayse16
                   (.again 0 10 3 [(10, tPlayse5), (11, (.i 1)), (12, (.i 0))])
                   (.ret (.cons (.b false) .nil)))
                  (.ret (.cons (.b false) .nil)))
                 (.ret (.cons (.b false) .nil)))
                (.again 0 10 3 [(10, tPlayse5), (11, (.i 1)), (12, (.i 0))]))
               (.br (.lt (.v 12) (.i 0))
                (.br tPlayse13
                 (.br tPlayse14
                  (.br tPlayse16
                   (.again 0 10 3 [(10, tPlayse5), (11, (.i 1)), (12, (.i 0))])
                   (.ret (.cons (.b false) .nil)))
                  (.ret (.cons (.b false) .nil)))
                 (.ret (.cons (.b false) .nil)))
                (.again 0 10 3 [(10, tPlayse5), (11, (.i 1)), (12, (.i 0))])))
              (.ret (.cons (.b false) .nil))))))
          (.again 0 10 3 [(10, tPlayse5), (11, (.v 11)), (12, (.v 12))]))
         (.br tPlayse13
          (.br tPlayse4
           (.br tPlayse17
            (.br tPlayse18
             (.again 0 10 3 [(10, tPlayse5), (11, (.v 11)), (12, (.v 12))])
             (.br (.eq (.v 11) (.i 3))
              (.again 0 10 3 [(10, tPlayse5), (11, (.v 11)), (12, (.v 12))])
              (.again 0 10 3 [(10, tPlayse5), (11, (.v 11)), (12, (.v 12))])))
            (.br (.eq (.v 11) (.i 6))
             (.br tPlayse18
              (.again 0 10 3 [(10, tPlayse5), (11, (.v 11)), (12, (.v 12))])
              (.br (.eq (.v 11) (.i 3))
               (.again 0 10 3 [(10, tPlayse5), (11, (.v 11)), (12, (.v 12))])
               (.again 0 10 3 [(10, tPlayse5), (11, (.v 11)), (12, (.v 12))])))
             (.br (.eq (.v 11) (.i 7))
              (.br tPlayse18
               (.again 0 10 3 [(10, tPlayse5), (11, (.v 11)), (12, (.v 12))])
               (.br (.eq (.v 11) (.i 3))
                (.again 0 10 3 [(10, tPlayse5), (11, (.v 11)), (12, (.v 12))])
                (.again 0 10 3 [(10, tPlayse5), (11, (.v 11)), (12, (.v 12))])))
              (.br (.eq (.v 11) (.i 5))
               (.br tPlayse18
                (.again 0 10 3 [(10, tPlayse5), (11, (.v 11)), (12, (.v 12))])
                (.br (.eq (.v 11) (.i 3))
                 (.again 0 10 3 [(10, tPlayse5), (11, (.v 11)), (12, (.v 12))])
                 (.again 0 10 3 [(10, tPlayse5), (11, (.v 11)), (12, (.v 12))])))
               (.br tPlayse19
                (.br tPlayse21
                 (.br tPlayse22
                  (.br (.eq (.v 0) (.i 1))
                   (.again 0 10 3 [(10, tPlayse5), (11, (.v 11)), (12, (.v 12))])
                   (.br tPlayse14
                    (.br tPlayse18
                     (.br tPlayse24
                      (.br tPlayse25
                       (.ret (.cons (.b false) .nil))
                       (.br tPlayse26
                        (.again 0 10 3 [(10, tPlayse5), (11, (.i 5)), (12, tPlayse15)])
                        (.again 0 10 3 [(10, tPlayse5), (11, (.i 5)), (12, tPlayse15)])))
                      (.ret (.cons (.b false) .nil)))
                     (.br (.eq (.v 11) (.i 3))
                      (.br tPlayse27
                       (.br tPlayse25
                        (.ret (.cons (.b false) .nil))
                        (.br tPlayse26
                         (.again 0 10 3 [(10, tPlayse5), (11, (.i 3)), (12, tPlayse15)])
                         (.again 0 10 3 [(10, tPlayse5), (11, (.i 3)), (12, tPlayse15)])))
                       (.ret (.cons (.b false) .nil)))
                      (.br tPlayse28
                       (.br tPlayse25
                        (.ret (.cons (.b false) .nil))
                        (.br tPlayse26
                         (.again 0 10 3 [(10, tPlayse5), (11, (.i 2)), (12, tPlayse15)])
                         (.again 0 10 3 [(10, tPlayse5), (11, (.i 2)), (12, tPlayse15)])))
                       (.ret (.cons (.b false) .nil)))))
                    (.br tPlayse18
                     (.again 0 10 3 [(10, tPlayse5), (11, (.v 11)), (12, (.v 12))])
                     (.br (.eq (.v 11) (.i 3))
                      (.again 0 10 3 [(10, tPlayse5), (11, (.v 11)), (12, (.v 12))])
                      (.again 0 10 3 [(10, tPlayse5), (11, (.v 11)), (12, (.v 12))])))))
                  (.br tPlayse18
                   (.again 0 10 3 [(10, tPlayse5), (11, (.v 11)), (12, (.v 12))])
                   (.br (.eq (.v 11) (.i 3))
                    (.again 0 10 3 [(10, tPlayse5), (11, (.v 11)), (12, (.v 12))])
                    (.again 0 10 3 [(10, tPlayse5), (11, (.v 11)), (12, (.v 12))]))))
                 (.br tPlayse18
                  (.again 0 10 3 [(10, tPlayse5), (11, (.v 11)), (12, (.v 12))])
                  (.br (.eq (.v 11) (.i 3))
                   (.again 0 10 3 [(10, tPlayse5), (11, (.v 11)), (12, (.v 12))])
                   (.again 0 10 3 [(10, tPlayse5), (11, (.v 11)), (12, (.v 12))]))))
                (.br tPlayse18
                 (.again 0 10 3 [(10, tPlayse5), (11, (.v 11)), (12, (.v 12))])
                 (.br (.eq (.v 11) (.i 3))
                  (.again 0 10 3 [(10, tPlayse5), (11, (.v 11)), (12, (.v 12))])
                  (.again 0 10 3 [(10, tPlayse5), (11, (.v 11)), (12, (.v 12))]))))))))
           (.br tPlayse18
            (.again 0 10 3 [(10, tPlayse5), (11, (.v 11)), (12, (.v 12))])
            (.br (.eq (.v 11) (.i 3))
             (.again 0 10 3 [(10, tPlayse5), (11, (.v 11)), (12, (.v 12))])
             (.again 0 10 3 [(10, tPlayse5), (11, (.v 11)), (12, (.v 12))]))))
          (.br tPlayse4
           (.br tPlayse29
            (.br (.eq (.v 11) (.i 7))
             (.again 0 10 3 [(10, tPlayse5), (11, (.v 11)), (12, (.v 12))])
             (.br tPlayse30
              (.again 0 10 3 [(10, tPlayse5), (11, (.v 11)), (12, (.v 12))])
              (.br tPlayse31
               (.again 0 10 3 [(10, tPlayse5), (11, (.get (.at (.v 2) (.v 10)) 2)), (12, (.v 12))])
               (.ret (.cons (.b false) .nil)))))
            (.br tPlayse32
             (.br (.eq (.v 11) (.i 7))
              (.again 0 10 3 [(10, tPlayse5), (11, (.v 11)), (12, (.v 12))])
              (.br tPlayse30
               (.again 0 10 3 [(10, tPlayse5), (11, (.v 11)), (12, (.v 12))])
               (.br tPlayse31
                (.again 0 10 3 [(10, tPlayse5), (11, (.get (.at (.v 2) (.v 10)) 2)), (12, (.v 12))])
                (.ret (.cons (.b false) .nil)))))
             (.again 0 10 3 [(10, tPlayse5), (11, (.v 11)), (12, (.v 12))])))
           (.again 0 10 3 [(10, tPlayse5), (11, (.v 11)), (12, (.v 12))]))))))))
     (.ret (.cons (.b true) .nil)))
    (.ret (.cons (.b true) .nil))))
   (.ret (.cons (.b false) .nil)))
  (.br (.get (.call 8 .nil) 0)
   (.ret (.cons (.b true) .nil))
   (.ret (.cons (.b false) .nil)))))
def playsCut : Nat → Option Cut := fun r => if r = 5 then some { key := 0, lo := 10, cnt := 3, slots := [(9, .var i64 10)], cells := [(3, [.same, .same, .var i64 11, .same, .same, .var i64 12])] } else none
abbrev PlaysJ (ki L n i st w : Int) : Prop := 0 ≤ i ∧ i ≤ 200 ∧ i ≤ n ∧ MayP 1 ki st 100 L w
def playsI (ds : List D) (_ : Nat) (ρ : Nat → D) : Prop := PlaysJ (fldD (.l ds) 0).toI (fldD (.l ds) 1).toI (fldD (.l ds) 2).toL.length (ρ 10).toI (ρ 11).toI (ρ 12).toI
def playsM (_ : List D) (_ : Nat) (ρ : Nat → D) : Nat := (200 - (ρ 10).toI).toNat
def c7 : Con := cLaw [.k i64, .k i64, .row [i64, i64, i64]] [0, 0, 140737488355328]
set_option maxRecDepth 100000 in
set_option maxHeartbeats 40000000 in
theorem k7 : ConsOk Try.prog ((7, c7) :: cons3) := by
  refine kk.ofC follows names (by kernel_rfl) playsCut 200 (T := tPlays) (by kernel_rfl) playsI playsM fun ds hp hn => ?_
  unfold tPlays
  obtain ⟨x0, x1, l, rfl⟩ : ∃ (x0 x1 : Int) (l : List D), ds = [.i x0, .i x1, .l l] := ⟨_, _, _, hn.symm⟩
  have hp : lawPre _ _ _ = true := hp
  simp only [lawPre, wfs, wfSh, wfL, wfK, i64, List.headD_cons, List.tail_cons, D.toI_i, D.toL_l, wf_i64, capped, Bool.and_eq_true, and_true, decide_eq_true_eq] at hp
  obtain ⟨⟨h0, h1, _, _⟩, h2⟩ := hp
  clear hp
  rcases (show x0 = 1 ∨ x0 = 2 ∨ (x0 ≠ 1 ∧ x0 ≠ 2) by omega) with rfl | rfl | ⟨hx1, hx2⟩
  all_goals
   simp only [VC_loop, VC_again, vcJ_C, vcJ_R, vcJ_J, vcJ_ms, upN_eq, ov10, ov11, ov12, ov0, ov1, ov2, su10, su11, su12, VC_br, VC_ret, VC_must, vc0_C, vc0_R, BT_b, BF_b, BT_lt, BF_lt, BT_le, BF_le, BT_eq, BF_eq, BT_eqb, BF_eqb, BT_not, BF_not, BT_and, BF_and, B_get, B_v, B_co, I_i, I_v, I_get, I_wrap, I_add, I_sub, den_v, den_i, den_get, den_cons, den_nil, den_b, den_co, den_eq, den_le, den_lt, den_wrap, den_add, den_sub, den_mul, den_len, Sh.norm, normK, normL, D.toB_b, D.toI_i, D.toL_l, norms, List.headD_cons, List.tail_cons, wrap_i64, ρof_get, List.cons.injEq, D.b.injEq, and_true, tPlayse0, tPlayse1, tPlayse2, tPlayse3, tPlayse4, tPlayse5, tPlayse6, tPlayse7, tPlayse8, tPlayse9, tPlayse10, tPlayse11, tPlayse12, tPlayse13, tPlayse14, tPlayse15, tPlayse16, tPlayse17, tPlayse18, tPlayse19, tPlayse20, tPlayse21, tPlayse22, tPlayse23, tPlayse24, tPlayse25, tPlayse26, tPlayse27, tPlayse28, tPlayse29, tPlayse30, tPlayse31, tPlayse32,  c7, cLaw, den_call con19, den_call con12, den_call con8, fldD_0, fldD_s, fld_def, fMay, fTrue, mayD_def, mayZ_T, mayZ_F, playsI, playsM, den_at, I_len, true_and, true_or, or_true, false_or, or_false, false_and, and_false, Int.reduceEq, Int.reduceLT, Int.reduceLE, Int.reduceNe, MayP, SeqP, PlaysJ, false_implies, true_implies, implies_true, and_self, not_true_eq_false, not_false_eq_true, ne_eq, Bool.true_eq_false, Bool.false_eq_true]
   repeat' (first | (with_reducible apply And.intro) | (intro h; try obtain ⟨j0, j1, j2, j3, j4, j5⟩ := h))
   all_goals first
     | exact True.intro
     | assumption
     | (exfalso; refine (show ¬ (1 ≤ x1 ∧ x1 ≤ 4096 ∧ _) by assumption) ⟨by assumption, by assumption, by assumption⟩)
     | omega
end Z
