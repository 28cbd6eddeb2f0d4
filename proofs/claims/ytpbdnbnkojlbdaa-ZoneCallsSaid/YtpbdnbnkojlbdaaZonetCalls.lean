/- A part of the proof: see the law's own text. Conditions: none. -/
import Derived.Test.YtpbdnbnkojlbdaaZone1
set_option linter.unusedVariables false
set_option linter.unusedSimpArgs false
namespace Z
open Go Go.AM Go.Proofs
def tCallse0 : X := (.cons (.get (.v 0) 3) (.cons (.get (.v 0) 4) (.cons (.get (.v 0) 5) .nil)))
def tCallse1 : X := (.cons (.co (.agg [(.int .i64), (.int .i64), (.int .i64), (.int .i64), (.int .i64), (.int .i64)]) (.cons (.get (.v 0) 0) (.cons (.get (.v 0) 1) (.cons (.get (.v 0) 2) tCallse0)))) .nil)
def tCallse2 : X := (.get (.call 19 tCallse1) 0)
def tCallse3 : X := (.get (.call 12 tCallse1) 0)
def tCallse4 : X := (.eqb tCallse2 tCallse3)
def tCallse5 : X := (.cons (.co (.k .bool) (.get (.call 19 (.cons (.co (.agg [(.int .i64), (.int .i64), (.int .i64), (.int .i64), (.int .i64), (.int .i64)]) (.cons (.get (.v 0) 0) (.cons (.get (.v 0) 1) (.cons (.i 1) tCallse0)))) .nil)) 0)) .nil)
def tCallse6 : X := (.cons (.co (.k .bool) (.get (.call 19 (.cons (.co (.agg [(.int .i64), (.int .i64), (.int .i64), (.int .i64), (.int .i64), (.int .i64)]) (.cons (.get (.v 0) 0) (.cons (.get (.v 0) 1) (.cons (.i 4) tCallse0)))) .nil)) 0)) .nil)
def tCallse7 : X := (.wrap .i64 (.add (.get (.v 0) 5) (.get (.v 1) 2)))
def tCallse8 : X := (.eq tCallse7 (.get (.v 0) 4))
def tCallse9 : X := (.le (.get (.v 0) 3) (.get (.v 1) 1))
def tCallse10 : X := (.wrap .i64 (.add (.get (.v 0) 3) (.get (.v 0) 4)))
def tCallse11 : X := (.lt (.get (.v 1) 1) tCallse10)
def tCallse12 : X := (.le (.get (.v 1) 2) (.wrap .i64 (.sub tCallse10 (.get (.v 1) 1))))
def tCallse13 : X := (.and (.eq (.get (.v 0) 3) (.i 0)) (.and (.eq (.get (.v 0) 4) (.i 0)) (.eq (.get (.v 0) 5) (.i 0))))
def tCallse14 : X := (.eq (.get (.v 1) 1) (.wrap .i64 (.add (.get (.v 0) 3) (.get (.v 0) 5))))
def tCallse15 : X := (.cons (.get (.v 0) 3) (.cons (.get (.v 0) 4) (.cons tCallse7 .nil)))
def tCallse16 : X := (.and (.eq (.i 0) (.get (.v 0) 3)) (.and (.eq (.i 0) (.get (.v 0) 4)) (.eq (.i 0) (.get (.v 0) 5))))
def tCallse17 : X := (.and (.eq (.i 0) (.get (.v 0) 0)) (.and (.eq (.i 0) (.get (.v 0) 1)) (.and (.eq (.i 0) (.get (.v 0) 2)) tCallse16)))
def tCallse18 : X := (.eq (.get (.v 0) 2) (.get (.v 1) 2))
def tCallse19 : X := (.cons (.co (.k .bool) (.get (.call 19 (.cons (.co (.agg [(.int .i64), (.int .i64), (.int .i64), (.int .i64), (.int .i64), (.int .i64)]) (.cons (.get (.v 0) 0) (.cons (.get (.v 0) 1) (.cons (.get (.v 1) 2) tCallse0)))) .nil)) 0)) .nil)
def tCallse20 : X := (.and (.eq (.get (.v 0) 0) (.i 0)) (.and (.eq (.get (.v 0) 1) (.i 0)) (.and (.eq (.get (.v 1) 2) (.i 0)) tCallse13)))
def tCallse21 : X := (.and (.eq (.i 0) (.get (.v 0) 0)) (.and (.eq (.i 0) (.get (.v 0) 1)) (.and (.eq (.i 0) (.get (.v 1) 2)) tCallse16)))
def tCalls : Tree := (.br (.eq (.get (.v 1) 0) (.i 1))
 (.br tCallse2
  (.br (.eq (.get (.v 0) 1) (.i 1))
   (.br tCallse3
    (.br (.get (.call 8 .nil) 0)
     (.br tCallse4
      (.ret (.cons (.b true) .nil))
      (.ret (.cons (.b false) .nil)))
     (.ret (.cons (.b false) .nil)))
    (.br (.get (.call 8 .nil) 0)
     (.ret (.cons (.b false) .nil))
     (.ret (.cons (.b false) .nil))))
   (.br (.eq (.get (.v 0) 2) (.i 6))
    (.br tCallse3
     (.br (.get (.call 8 .nil) 0)
      (.br tCallse4
       (.ret (.cons (.b true) .nil))
       (.ret (.cons (.b false) .nil)))
      (.ret (.cons (.b false) .nil)))
     (.br (.get (.call 8 .nil) 0)
      (.ret (.cons (.b false) .nil))
      (.ret (.cons (.b false) .nil))))
    (.br (.eq (.get (.v 0) 2) (.i 7))
     (.br tCallse3
      (.br (.get (.call 8 .nil) 0)
       (.br tCallse4
        (.ret (.cons (.b true) .nil))
        (.ret (.cons (.b false) .nil)))
       (.ret (.cons (.b false) .nil)))
      (.br (.get (.call 8 .nil) 0)
       (.ret (.cons (.b false) .nil))
       (.ret (.cons (.b false) .nil))))
     (.br (.eq (.get (.v 0) 2) (.i 5))
      (.br tCallse3
       (.br (.get (.call 8 .nil) 0)
        (.br tCallse4
         (.ret (.cons (.b true) .nil))
         (.ret (.cons (.b false) .nil)))
        (.ret (.cons (.b false) .nil)))
       (.br (.get (.call 8 .nil) 0)
        (.ret (.cons (.b false) .nil))
        (.ret (.cons (.b false) .nil))))
      (.br tCallse3
       (.br (.get (.call 8 .nil) 0)
        (.br tCallse4
         (.ret (.cons (.co (.k .bool) (.get (.call 19 (.cons (.co (.agg [(.int .i64), (.int .i64), (.int .i64), (.int .i64), (.int .i64), (.int .i64)]) (.cons (.get (.v 0) 0) (.cons (.get (.v 0) 1) (.cons (.i 3) tCallse0)))) .nil)) 0)) .nil))
         (.ret (.cons (.b false) .nil)))
        (.ret (.cons (.b false) .nil)))
       (.br (.get (.call 8 .nil) 0)
        (.ret (.cons (.b false) .nil))
        (.ret (.cons (.b false) .nil))))))))
  (.br tCallse3
   (.br (.eq (.get (.v 0) 1) (.i 1))
    (.br (.get (.call 8 .nil) 0)
     (.ret (.cons (.b false) .nil))
     (.ret (.cons (.b false) .nil)))
    (.br (.eq (.get (.v 0) 2) (.i 6))
     (.br (.get (.call 8 .nil) 0)
      (.ret (.cons (.b false) .nil))
      (.ret (.cons (.b false) .nil)))
     (.br (.eq (.get (.v 0) 2) (.i 7))
      (.br (.get (.call 8 .nil) 0)
       (.ret (.cons (.b false) .nil))
       (.ret (.cons (.b false) .nil)))
      (.br (.eq (.get (.v 0) 2) (.i 5))
       (.br (.get (.call 8 .nil) 0)
        (.ret (.cons (.b false) .nil))
        (.ret (.cons (.b false) .nil)))
       (.br (.get (.call 8 .nil) 0)
        (.ret (.cons (.b false) .nil))
        (.ret (.cons (.b false) .nil)))))))
   (.br (.get (.call 8 .nil) 0)
    (.br tCallse4
     (.ret (.cons (.b true) .nil))
     (.ret (.cons (.b false) .nil)))
    (.ret (.cons (.b false) .nil)))))
 (.br (.eq (.get (.v 1) 0) (.i 2))
  (.br tCallse2
   (.br (.eq (.get (.v 0) 1) (.i 1))
    (.br (.eq (.get (.v 0) 5) (.i 0))
     (.br tCallse3
      (.br (.get (.call 8 .nil) 0)
       (.br tCallse4
        (.ret (.cons (.b true) .nil))
        (.ret (.cons (.b false) .nil)))
       (.ret (.cons (.b false) .nil)))
      (.br (.get (.call 8 .nil) 0)
       (.ret (.cons (.b false) .nil))
       (.ret (.cons (.b false) .nil))))
     (.br tCallse3
      (.br (.get (.call 8 .nil) 0)
       (.br tCallse4
        (.ret (.cons (.b true) .nil))
        (.ret (.cons (.b false) .nil)))
       (.ret (.cons (.b false) .nil)))
      (.br (.get (.call 8 .nil) 0)
       (.ret (.cons (.b false) .nil))
       (.ret (.cons (.b false) .nil)))))
    (.br (.eq (.get (.v 0) 2) (.i 6))
     (.br (.eq (.get (.v 0) 5) (.i 0))
      (.br tCallse3
       (.br (.get (.call 8 .nil) 0)
        (.br tCallse4
         (.ret (.cons (.b true) .nil))
         (.ret (.cons (.b false) .nil)))
        (.ret (.cons (.b false) .nil)))
       (.br (.get (.call 8 .nil) 0)
        (.ret (.cons (.b false) .nil))
        (.ret (.cons (.b false) .nil))))
      (.br tCallse3
       (.br (.get (.call 8 .nil) 0)
        (.br tCallse4
         (.ret (.cons (.b true) .nil))
         (.ret (.cons (.b false) .nil)))
        (.ret (.cons (.b false) .nil)))
       (.br (.get (.call 8 .nil) 0)
        (.ret (.cons (.b false) .nil))
        (.ret (.cons (.b false) .nil)))))
     (.br (.eq (.get (.v 0) 2) (.i 7))
      (.br (.eq (.get (.v 0) 5) (.i 0))
       (.br tCallse3
        (.br (.get (.call 8 .nil) 0)
         (.br tCallse4
          (.ret (.cons (.b true) .nil))
          (.ret (.cons (.b false) .nil)))
         (.ret (.cons (.b false) .nil)))
        (.br (.get (.call 8 .nil) 0)
         (.ret (.cons (.b false) .nil))
         (.ret (.cons (.b false) .nil))))
       (.br tCallse3
        (.br (.get (.call 8 .nil) 0)
         (.br tCallse4
          (.ret (.cons (.b true) .nil))
          (.ret (.cons (.b false) .nil)))
         (.ret (.cons (.b false) .nil)))
        (.br (.get (.call 8 .nil) 0)
         (.ret (.cons (.b false) .nil))
         (.ret (.cons (.b false) .nil)))))
      (.br (.eq (.get (.v 0) 2) (.i 2))
       (.br (.eq (.get (.v 0) 5) (.i 0))
        (.br tCallse3
         (.br (.get (.call 8 .nil) 0)
          (.br tCallse4
           (.ret tCallse5)
           (.ret (.cons (.b false) .nil)))
          (.ret (.cons (.b false) .nil)))
         (.br (.get (.call 8 .nil) 0)
          (.ret (.cons (.b false) .nil))
          (.ret (.cons (.b false) .nil))))
        (.br tCallse3
         (.br (.get (.call 8 .nil) 0)
          (.br tCallse4
           (.ret tCallse6)
           (.ret (.cons (.b false) .nil)))
          (.ret (.cons (.b false) .nil)))
         (.br (.get (.call 8 .nil) 0)
          (.ret (.cons (.b false) .nil))
          (.ret (.cons (.b false) .nil)))))
       (.br (.eq (.get (.v 0) 2) (.i 3))
        (.br (.eq (.get (.v 0) 5) (.i 0))
         (.br tCallse3
          (.br (.get (.call 8 .nil) 0)
           (.br tCallse4
            (.ret tCallse5)
            (.ret (.cons (.b false) .nil)))
           (.ret (.cons (.b false) .nil)))
          (.br (.get (.call 8 .nil) 0)
           (.ret (.cons (.b false) .nil))
           (.ret (.cons (.b false) .nil))))
         (.br tCallse3
          (.br (.get (.call 8 .nil) 0)
           (.br tCallse4
            (.ret tCallse6)
            (.ret (.cons (.b false) .nil)))
           (.ret (.cons (.b false) .nil)))
          (.br (.get (.call 8 .nil) 0)
           (.ret (.cons (.b false) .nil))
           (.ret (.cons (.b false) .nil)))))
        (.br (.eq (.get (.v 0) 2) (.i 4))
         (.br (.eq (.get (.v 0) 5) (.i 0))
          (.br tCallse3
           (.br (.get (.call 8 .nil) 0)
            (.br tCallse4
             (.ret tCallse5)
             (.ret (.cons (.b false) .nil)))
            (.ret (.cons (.b false) .nil)))
           (.br (.get (.call 8 .nil) 0)
            (.ret (.cons (.b false) .nil))
            (.ret (.cons (.b false) .nil))))
          (.br tCallse3
           (.br (.get (.call 8 .nil) 0)
            (.br tCallse4
             (.ret tCallse6)
             (.ret (.cons (.b false) .nil)))
            (.ret (.cons (.b false) .nil)))
           (.br (.get (.call 8 .nil) 0)
            (.ret (.cons (.b false) .nil))
            (.ret (.cons (.b false) .nil)))))
         (.br (.eq (.get (.v 0) 5) (.i 0))
          (.br tCallse3
           (.br (.get (.call 8 .nil) 0)
            (.br tCallse4
             (.ret (.cons (.b true) .nil))
             (.ret (.cons (.b false) .nil)))
            (.ret (.cons (.b false) .nil)))
           (.br (.get (.call 8 .nil) 0)
            (.ret (.cons (.b false) .nil))
            (.ret (.cons (.b false) .nil))))
          (.br tCallse3
           (.br (.get (.call 8 .nil) 0)
            (.br tCallse4
             (.ret (.cons (.b true) .nil))
             (.ret (.cons (.b false) .nil)))
            (.ret (.cons (.b false) .nil)))
           (.br (.get (.call 8 .nil) 0)
            (.ret (.cons (.b false) .nil))
            (.ret (.cons (.b false) .nil)))))))))))
   (.br (.eq (.get (.v 0) 5) (.i 0))
    (.br tCallse3
     (.br (.eq (.get (.v 0) 1) (.i 1))
      (.br (.get (.call 8 .nil) 0)
       (.ret (.cons (.b false) .nil))
       (.ret (.cons (.b false) .nil)))
      (.br (.eq (.get (.v 0) 2) (.i 6))
       (.br (.get (.call 8 .nil) 0)
        (.ret (.cons (.b false) .nil))
        (.ret (.cons (.b false) .nil)))
       (.br (.eq (.get (.v 0) 2) (.i 7))
        (.br (.get (.call 8 .nil) 0)
         (.ret (.cons (.b false) .nil))
         (.ret (.cons (.b false) .nil)))
        (.br (.eq (.get (.v 0) 2) (.i 2))
         (.br (.get (.call 8 .nil) 0)
          (.ret (.cons (.b false) .nil))
          (.ret (.cons (.b false) .nil)))
         (.br (.eq (.get (.v 0) 2) (.i 3))
          (.br (.get (.call 8 .nil) 0)
           (.ret (.cons (.b false) .nil))
           (.ret (.cons (.b false) .nil)))
          (.br (.eq (.get (.v 0) 2) (.i 4))
           (.br (.get (.call 8 .nil) 0)
            (.ret (.cons (.b false) .nil))
            (.ret (.cons (.b false) .nil)))
           (.br (.get (.call 8 .nil) 0)
            (.ret (.cons (.b false) .nil))
            (.ret (.cons (.b false) .nil)))))))))
     (.br (.get (.call 8 .nil) 0)
      (.br tCallse4
       (.ret (.cons (.b true) .nil))
       (.ret (.cons (.b false) .nil)))
      (.ret (.cons (.b false) .nil))))
    (.br tCallse3
     (.br (.eq (.get (.v 0) 1) (.i 1))
      (.br (.get (.call 8 .nil) 0)
       (.ret (.cons (.b false) .nil))
       (.ret (.cons (.b false) .nil)))
      (.br (.eq (.get (.v 0) 2) (.i 6))
       (.br (.get (.call 8 .nil) 0)
        (.ret (.cons (.b false) .nil))
        (.ret (.cons (.b false) .nil)))
       (.br (.eq (.get (.v 0) 2) (.i 7))
        (.br (.get (.call 8 .nil) 0)
         (.ret (.cons (.b false) .nil))
         (.ret (.cons (.b false) .nil)))
        (.br (.eq (.get (.v 0) 2) (.i 2))
         (.br (.get (.call 8 .nil) 0)
          (.ret (.cons (.b false) .nil))
          (.ret (.cons (.b false) .nil)))
         (.br (.eq (.get (.v 0) 2) (.i 3))
          (.br (.get (.call 8 .nil) 0)
           (.ret (.cons (.b false) .nil))
           (.ret (.cons (.b false) .nil)))
          (.br (.eq (.get (.v 0) 2) (.i 4))
           (.br (.get (.call 8 .nil) 0)
            (.ret (.cons (.b false) .nil))
            (.ret (.cons (.b false) .nil)))
           (.br (.get (.call 8 .nil) 0)
            (.ret (.cons (.b false) .nil))
            (.ret (.cons (.b false) .nil)))))))))
     (.br (.get (.call 8 .nil) 0)
      (.br tCallse4
       (.ret (.cons (.b true) .nil))
       (.ret (.cons (.b false) .nil)))
      (.ret (.cons (.b false) .nil))))))
  (.br (.eq (.get (.v 1) 0) (.i 3))
   (.br tCallse2
    (.br (.eq (.get (.v 0) 1) (.i 1))
     (.br tCallse3
      (.br (.get (.call 8 .nil) 0)
       (.br tCallse4
        (.ret (.cons (.b true) .nil))
        (.ret (.cons (.b false) .nil)))
       (.ret (.cons (.b false) .nil)))
      (.br (.get (.call 8 .nil) 0)
       (.ret (.cons (.b false) .nil))
       (.ret (.cons (.b false) .nil))))
     (.br (.eq (.get (.v 0) 2) (.i 6))
      (.br tCallse3
       (.br (.get (.call 8 .nil) 0)
        (.br tCallse4
         (.ret (.cons (.b true) .nil))
         (.ret (.cons (.b false) .nil)))
        (.ret (.cons (.b false) .nil)))
       (.br (.get (.call 8 .nil) 0)
        (.ret (.cons (.b false) .nil))
        (.ret (.cons (.b false) .nil))))
      (.br (.eq (.get (.v 0) 2) (.i 7))
       (.br tCallse3
        (.br (.get (.call 8 .nil) 0)
         (.br tCallse4
          (.ret (.cons (.b true) .nil))
          (.ret (.cons (.b false) .nil)))
         (.ret (.cons (.b false) .nil)))
        (.br (.get (.call 8 .nil) 0)
         (.ret (.cons (.b false) .nil))
         (.ret (.cons (.b false) .nil))))
       (.br tCallse3
        (.br (.get (.call 8 .nil) 0)
         (.br tCallse4
          (.ret (.cons (.co (.k .bool) (.get (.call 19 (.cons (.co (.agg [(.int .i64), (.int .i64), (.int .i64), (.int .i64), (.int .i64), (.int .i64)]) (.cons (.get (.v 0) 0) (.cons (.get (.v 0) 1) (.cons (.i 5) tCallse0)))) .nil)) 0)) .nil))
          (.ret (.cons (.b false) .nil)))
         (.ret (.cons (.b false) .nil)))
        (.br (.get (.call 8 .nil) 0)
         (.ret (.cons (.b false) .nil))
         (.ret (.cons (.b false) .nil)))))))
    (.br tCallse3
     (.br (.eq (.get (.v 0) 1) (.i 1))
      (.br (.get (.call 8 .nil) 0)
       (.ret (.cons (.b false) .nil))
       (.ret (.cons (.b false) .nil)))
      (.br (.eq (.get (.v 0) 2) (.i 6))
       (.br (.get (.call 8 .nil) 0)
        (.ret (.cons (.b false) .nil))
        (.ret (.cons (.b false) .nil)))
       (.br (.eq (.get (.v 0) 2) (.i 7))
        (.br (.get (.call 8 .nil) 0)
         (.ret (.cons (.b false) .nil))
         (.ret (.cons (.b false) .nil)))
        (.br (.get (.call 8 .nil) 0)
         (.ret (.cons (.b false) .nil))
         (.ret (.cons (.b false) .nil))))))
     (.br (.get (.call 8 .nil) 0)
      (.br tCallse4
       (.ret (.cons (.b true) .nil))
       (.ret (.cons (.b false) .nil)))
      (.ret (.cons (.b false) .nil)))))
   (.br (.eq (.get (.v 1) 0) (.i 4))
    (.br tCallse2
     (.br (.eq (.get (.v 0) 1) (.i 1))
      (.br tCallse3
       (.br (.get (.call 8 .nil) 0)
        (.br tCallse4
         (.ret (.cons (.b true) .nil))
         (.ret (.cons (.b false) .nil)))
        (.ret (.cons (.b false) .nil)))
       (.br (.get (.call 8 .nil) 0)
        (.ret (.cons (.b false) .nil))
        (.ret (.cons (.b false) .nil))))
      (.br (.eq (.get (.v 0) 2) (.i 6))
       (.br tCallse3
        (.br (.get (.call 8 .nil) 0)
         (.br tCallse4
          (.ret (.cons (.b true) .nil))
          (.ret (.cons (.b false) .nil)))
         (.ret (.cons (.b false) .nil)))
        (.br (.get (.call 8 .nil) 0)
         (.ret (.cons (.b false) .nil))
         (.ret (.cons (.b false) .nil))))
       (.br (.eq (.get (.v 0) 2) (.i 7))
        (.br tCallse3
         (.br (.get (.call 8 .nil) 0)
          (.br tCallse4
           (.ret (.cons (.b true) .nil))
           (.ret (.cons (.b false) .nil)))
          (.ret (.cons (.b false) .nil)))
         (.br (.get (.call 8 .nil) 0)
          (.ret (.cons (.b false) .nil))
          (.ret (.cons (.b false) .nil))))
        (.br tCallse3
         (.br (.get (.call 8 .nil) 0)
          (.br tCallse4
           (.ret (.cons (.co (.k .bool) (.get (.call 19 (.cons (.co (.agg [(.int .i64), (.int .i64), (.int .i64), (.int .i64), (.int .i64), (.int .i64)]) (.cons (.get (.v 0) 0) (.cons (.get (.v 0) 1) (.cons (.i 1) (.cons (.get (.v 0) 3) (.cons (.get (.v 0) 4) (.cons (.i 0) .nil))))))) .nil)) 0)) .nil))
           (.ret (.cons (.b false) .nil)))
          (.ret (.cons (.b false) .nil)))
         (.br (.get (.call 8 .nil) 0)
          (.ret (.cons (.b false) .nil))
          (.ret (.cons (.b false) .nil)))))))
     (.br tCallse3
      (.br (.eq (.get (.v 0) 1) (.i 1))
       (.br (.get (.call 8 .nil) 0)
        (.ret (.cons (.b false) .nil))
        (.ret (.cons (.b false) .nil)))
       (.br (.eq (.get (.v 0) 2) (.i 6))
        (.br (.get (.call 8 .nil) 0)
         (.ret (.cons (.b false) .nil))
         (.ret (.cons (.b false) .nil)))
        (.br (.eq (.get (.v 0) 2) (.i 7))
         (.br (.get (.call 8 .nil) 0)
          (.ret (.cons (.b false) .nil))
          (.ret (.cons (.b false) .nil)))
         (.br (.get (.call 8 .nil) 0)
          (.ret (.cons (.b false) .nil))
          (.ret (.cons (.b false) .nil))))))
      (.br (.get (.call 8 .nil) 0)
       (.br tCallse4
        (.ret (.cons (.b true) .nil))
        (.ret (.cons (.b false) .nil)))
       (.ret (.cons (.b false) .nil)))))
    (.br (.eq (.get (.v 1) 0) (.i 5))
     (.br tCallse2
      (.br (.lt (.get (.v 1) 2) (.i 1))
       (.br tCallse8
        (.br tCallse3
         (.br (.get (.call 8 .nil) 0)
          (.br tCallse4
           (.ret (.cons (.b true) .nil))
           (.ret (.cons (.b false) .nil)))
          (.ret (.cons (.b false) .nil)))
         (.br (.get (.call 8 .nil) 0)
          (.br tCallse4
           (.ret (.cons (.b true) .nil))
           (.ret (.cons (.b false) .nil)))
          (.ret (.cons (.b false) .nil))))
        (.br (.eq (.get (.v 0) 2) (.i 3))
         (.br tCallse3
          (.br (.get (.call 8 .nil) 0)
           (.br tCallse4
            (.ret (.cons (.b true) .nil))
            (.ret (.cons (.b false) .nil)))
           (.ret (.cons (.b false) .nil)))
          (.br (.get (.call 8 .nil) 0)
           (.br tCallse4
            (.ret (.cons (.b true) .nil))
            (.ret (.cons (.b false) .nil)))
           (.ret (.cons (.b false) .nil))))
         (.br tCallse3
          (.br (.get (.call 8 .nil) 0)
           (.br tCallse4
            (.ret (.cons (.b true) .nil))
            (.ret (.cons (.b false) .nil)))
           (.ret (.cons (.b false) .nil)))
          (.br (.get (.call 8 .nil) 0)
           (.br tCallse4
            (.ret (.cons (.b true) .nil))
            (.ret (.cons (.b false) .nil)))
           (.ret (.cons (.b false) .nil))))))
       (.br (.eq (.get (.v 0) 2) (.i 6))
        (.br tCallse8
         (.br tCallse3
          (.br (.get (.call 8 .nil) 0)
           (.br tCallse4
            (.ret (.cons (.b true) .nil))
            (.ret (.cons (.b false) .nil)))
           (.ret (.cons (.b false) .nil)))
          (.br (.get (.call 8 .nil) 0)
           (.ret (.cons (.b false) .nil))
           (.ret (.cons (.b false) .nil))))
         (.br (.eq (.get (.v 0) 2) (.i 3))
          (.br tCallse3
           (.br (.get (.call 8 .nil) 0)
            (.br tCallse4
             (.ret (.cons (.b true) .nil))
             (.ret (.cons (.b false) .nil)))
            (.ret (.cons (.b false) .nil)))
           (.br (.get (.call 8 .nil) 0)
            (.ret (.cons (.b false) .nil))
            (.ret (.cons (.b false) .nil))))
          (.br tCallse3
           (.br (.get (.call 8 .nil) 0)
            (.br tCallse4
             (.ret (.cons (.b true) .nil))
             (.ret (.cons (.b false) .nil)))
            (.ret (.cons (.b false) .nil)))
           (.br (.get (.call 8 .nil) 0)
            (.ret (.cons (.b false) .nil))
            (.ret (.cons (.b false) .nil))))))
        (.br (.eq (.get (.v 0) 2) (.i 7))
         (.br tCallse8
          (.br tCallse3
           (.br (.get (.call 8 .nil) 0)
            (.br tCallse4
             (.ret (.cons (.b true) .nil))
             (.ret (.cons (.b false) .nil)))
            (.ret (.cons (.b false) .nil)))
           (.br (.get (.call 8 .nil) 0)
            (.ret (.cons (.b false) .nil))
            (.ret (.cons (.b false) .nil))))
          (.br (.eq (.get (.v 0) 2) (.i 3))
           (.br tCallse3
            (.br (.get (.call 8 .nil) 0)
             (.br tCallse4
              (.ret (.cons (.b true) .nil))
              (.ret (.cons (.b false) .nil)))
             (.ret (.cons (.b false) .nil)))
            (.br (.get (.call 8 .nil) 0)
             (.ret (.cons (.b false) .nil))
             (.ret (.cons (.b false) .nil))))
           (.br tCallse3
            (.br (.get (.call 8 .nil) 0)
             (.br tCallse4
              (.ret (.cons (.b true) .nil))
              (.ret (.cons (.b false) .nil)))
             (.ret (.cons (.b false) .nil)))
            (.br (.get (.call 8 .nil) 0)
             (.ret (.cons (.b false) .nil))
             (.ret (.cons (.b false) .nil))))))
         (.br (.eq (.get (.v 0) 2) (.i 5))
          (.br tCallse8
           (.br tCallse3
            (.br (.get (.call 8 .nil) 0)
             (.br tCallse4
              (.ret (.cons (.b true) .nil))
              (.ret (.cons (.b false) .nil)))
             (.ret (.cons (.b false) .nil)))
            (.br (.get (.call 8 .nil) 0)
             (.ret (.cons (.b false) .nil))
             (.ret (.cons (.b false) .nil))))
           (.br (.eq (.get (.v 0) 2) (.i 3))
            (.br tCallse3
             (.br (.get (.call 8 .nil) 0)
              (.br tCallse4
               (.ret (.cons (.b true) .nil))
               (.ret (.cons (.b false) .nil)))
              (.ret (.cons (.b false) .nil)))
             (.br (.get (.call 8 .nil) 0)
              (.ret (.cons (.b false) .nil))
              (.ret (.cons (.b false) .nil))))
            (.br tCallse3
             (.br (.get (.call 8 .nil) 0)
              (.br tCallse4
               (.ret (.cons (.b true) .nil))
               (.ret (.cons (.b false) .nil)))
              (.ret (.cons (.b false) .nil)))
             (.br (.get (.call 8 .nil) 0)
              (.ret (.cons (.b false) .nil))
              (.ret (.cons (.b false) .nil))))))
          (.br tCallse9
           (.br tCallse11
            (.br tCallse12
             (.br (.eq (.get (.v 0) 1) (.i 1))
              (.br tCallse3
               (.br (.get (.call 8 .nil) 0)
                (.br tCallse4
                 (.ret (.cons (.co (.k .bool) tCallse2) .nil))
                 (.ret (.cons (.b false) .nil)))
                (.ret (.cons (.b false) .nil)))
               (.br (.get (.call 8 .nil) 0)
                (.br (.and (.eq (.get (.v 0) 0) (.i 0)) (.and (.eq (.get (.v 0) 1) (.i 0)) (.and (.eq (.get (.v 0) 2) (.i 0)) tCallse13)))
                 (.ret (.cons (.b false) .nil))
                 (.ret (.cons (.b false) .nil)))
                (.ret (.cons (.b false) .nil))))
              (.br tCallse14
               (.br tCallse8
                (.br tCallse3
                 (.br (.get (.call 8 .nil) 0)
                  (.br tCallse4
                   (.ret (.cons (.co (.k .bool) (.get (.call 19 (.cons (.co (.agg [(.int .i64), (.int .i64), (.int .i64), (.int .i64), (.int .i64), (.int .i64)]) (.cons (.get (.v 0) 0) (.cons (.get (.v 0) 1) (.cons (.i 5) tCallse15)))) .nil)) 0)) .nil))
                   (.ret (.cons (.b false) .nil)))
                  (.ret (.cons (.b false) .nil)))
                 (.br (.get (.call 8 .nil) 0)
                  (.ret (.cons (.b false) .nil))
                  (.ret (.cons (.b false) .nil))))
                (.br (.eq (.get (.v 0) 2) (.i 3))
                 (.br tCallse3
                  (.br (.get (.call 8 .nil) 0)
                   (.br (.eq (.i 3) (.get (.v 0) 2))
                    (.br tCallse4
                     (.ret (.cons (.co (.k .bool) (.get (.call 19 (.cons (.co (.agg [(.int .i64), (.int .i64), (.int .i64), (.int .i64), (.int .i64), (.int .i64)]) (.cons (.get (.v 0) 0) (.cons (.get (.v 0) 1) (.cons (.i 3) tCallse15)))) .nil)) 0)) .nil))
                     (.ret (.cons (.b false) .nil)))
                    (.ret (.cons (.b false) .nil)))
                   (.ret (.cons (.b false) .nil)))
                  (.br (.get (.call 8 .nil) 0)
                   (.ret (.cons (.b false) .nil))
                   (.ret (.cons (.b false) .nil))))
                 (.br tCallse3
                  (.br (.get (.call 8 .nil) 0)
                   (.br tCallse4
                    (.ret (.cons (.co (.k .bool) (.get (.call 19 (.cons (.co (.agg [(.int .i64), (.int .i64), (.int .i64), (.int .i64), (.int .i64), (.int .i64)]) (.cons (.get (.v 0) 0) (.cons (.get (.v 0) 1) (.cons (.i 2) tCallse15)))) .nil)) 0)) .nil))
                    (.ret (.cons (.b false) .nil)))
                   (.ret (.cons (.b false) .nil)))
                  (.br (.get (.call 8 .nil) 0)
                   (.ret (.cons (.b false) .nil))
                   (.ret (.cons (.b false) .nil))))))
               (.br tCallse8
                (.br tCallse3
                 (.br (.get (.call 8 .nil) 0)
                  (.br tCallse4
                   (.ret (.cons (.b true) .nil))
                   (.ret (.cons (.b false) .nil)))
                  (.ret (.cons (.b false) .nil)))
                 (.br (.get (.call 8 .nil) 0)
                  (.ret (.cons (.b false) .nil))
                  (.ret (.cons (.b false) .nil))))
                (.br (.eq (.get (.v 0) 2) (.i 3))
                 (.br tCallse3
                  (.br (.get (.call 8 .nil) 0)
                   (.br tCallse4
                    (.ret (.cons (.b true) .nil))
                    (.ret (.cons (.b false) .nil)))
                   (.ret (.cons (.b false) .nil)))
                  (.br (.get (.call 8 .nil) 0)
                   (.ret (.cons (.b false) .nil))
                   (.ret (.cons (.b false) .nil))))
                 (.br tCallse3
                  (.br (.get (.call 8 .nil) 0)
                   (.br tCallse4
                    (.ret (.cons (.b true) .nil))
                    (.ret (.cons (.b false) .nil)))
                   (.ret (.cons (.b false) .nil)))
                  (.br (.get (.call 8 .nil) 0)
                   (.ret (.cons (.b false) .nil))
                   (.ret (.cons (.b false) .nil))))))))
             (.br tCallse8
              (.br tCallse3
               (.br (.get (.call 8 .nil) 0)
                (.br tCallse4
                 (.ret (.cons (.b true) .nil))
                 (.ret (.cons (.b false) .nil)))
                (.ret (.cons (.b false) .nil)))
               (.br (.get (.call 8 .nil) 0)
                (.ret (.cons (.b false) .nil))
                (.ret (.cons (.b false) .nil))))
              (.br (.eq (.get (.v 0) 2) (.i 3))
               (.br tCallse3
                (.br (.get (.call 8 .nil) 0)
                 (.br tCallse4
                  (.ret (.cons (.b true) .nil))
                  (.ret (.cons (.b false) .nil)))
                 (.ret (.cons (.b false) .nil)))
                (.br (.get (.call 8 .nil) 0)
                 (.ret (.cons (.b false) .nil))
                 (.ret (.cons (.b false) .nil))))
               (.br tCallse3
                (.br (.get (.call 8 .nil) 0)
                 (.br tCallse4
                  (.ret (.cons (.b true) .nil))
                  (.ret (.cons (.b false) .nil)))
                 (.ret (.cons (.b false) .nil)))
                (.br (.get (.call 8 .nil) 0)
                 (.ret (.cons (.b false) .nil))
                 (.ret (.cons (.b false) .nil)))))))
            (.br tCallse8
             (.br tCallse3
              (.br (.get (.call 8 .nil) 0)
               (.br tCallse4
                (.ret (.cons (.b true) .nil))
                (.ret (.cons (.b false) .nil)))
               (.ret (.cons (.b false) .nil)))
              (.br (.get (.call 8 .nil) 0)
               (.ret (.cons (.b false) .nil))
               (.ret (.cons (.b false) .nil))))
             (.br (.eq (.get (.v 0) 2) (.i 3))
              (.br tCallse3
               (.br (.get (.call 8 .nil) 0)
                (.br tCallse4
                 (.ret (.cons (.b true) .nil))
                 (.ret (.cons (.b false) .nil)))
                (.ret (.cons (.b false) .nil)))
               (.br (.get (.call 8 .nil) 0)
                (.ret (.cons (.b false) .nil))
                (.ret (.cons (.b false) .nil))))
              (.br tCallse3
               (.br (.get (.call 8 .nil) 0)
                (.br tCallse4
                 (.ret (.cons (.b true) .nil))
                 (.ret (.cons (.b false) .nil)))
                (.ret (.cons (.b false) .nil)))
               (.br (.get (.call 8 .nil) 0)
                (.ret (.cons (.b false) .nil))
                (.ret (.cons (.b false) .nil)))))))
           (.br tCallse8
            (.br tCallse3
             (.br (.get (.call 8 .nil) 0)
              (.br tCallse4
               (.ret (.cons (.b true) .nil))
               (.ret (.cons (.b false) .nil)))
              (.ret (.cons (.b false) .nil)))
             (.br (.get (.call 8 .nil) 0)
              (.ret (.cons (.b false) .nil))
              (.ret (.cons (.b false) .nil))))
            (.br (.eq (.get (.v 0) 2) (.i 3))
             (.br tCallse3
              (.br (.get (.call 8 .nil) 0)
               (.br tCallse4
                (.ret (.cons (.b true) .nil))
                (.ret (.cons (.b false) .nil)))
               (.ret (.cons (.b false) .nil)))
              (.br (.get (.call 8 .nil) 0)
               (.ret (.cons (.b false) .nil))
               (.ret (.cons (.b false) .nil))))
             (.br tCallse3
              (.br (.get (.call 8 .nil) 0)
               (.br tCallse4
                (.ret (.cons (.b true) .nil))
                (.ret (.cons (.b false) .nil)))
               (.ret (.cons (.b false) .nil)))
              (.br (.get (.call 8 .nil) 0)
               (.ret (.cons (.b false) .nil))
               (.ret (.cons (.b false) .nil)))))))))))
      (.br tCallse8
       (.br tCallse3
        (.br (.lt (.get (.v 1) 2) (.i 1))
         (.br (.get (.call 8 .nil) 0)
          (.br tCallse4
           (.ret (.cons (.b true) .nil))
           (.ret (.cons (.b false) .nil)))
          (.ret (.cons (.b false) .nil)))
         (.br (.eq (.get (.v 0) 2) (.i 6))
          (.br (.get (.call 8 .nil) 0)
           (.ret (.cons (.b false) .nil))
           (.ret (.cons (.b false) .nil)))
          (.br (.eq (.get (.v 0) 2) (.i 7))
           (.br (.get (.call 8 .nil) 0)
            (.ret (.cons (.b false) .nil))
            (.ret (.cons (.b false) .nil)))
           (.br (.eq (.get (.v 0) 2) (.i 5))
            (.br (.get (.call 8 .nil) 0)
             (.ret (.cons (.b false) .nil))
             (.ret (.cons (.b false) .nil)))
            (.br tCallse9
             (.br tCallse11
              (.br tCallse12
               (.br (.eq (.get (.v 0) 1) (.i 1))
                (.br (.get (.call 8 .nil) 0)
                 (.br tCallse17
                  (.ret (.cons (.b false) .nil))
                  (.ret (.cons (.b false) .nil)))
                 (.ret (.cons (.b false) .nil)))
                (.br tCallse14
                 (.br (.get (.call 8 .nil) 0)
                  (.ret (.cons (.b false) .nil))
                  (.ret (.cons (.b false) .nil)))
                 (.br (.get (.call 8 .nil) 0)
                  (.ret (.cons (.b false) .nil))
                  (.ret (.cons (.b false) .nil)))))
               (.br (.get (.call 8 .nil) 0)
                (.ret (.cons (.b false) .nil))
                (.ret (.cons (.b false) .nil))))
              (.br (.get (.call 8 .nil) 0)
               (.ret (.cons (.b false) .nil))
               (.ret (.cons (.b false) .nil))))
             (.br (.get (.call 8 .nil) 0)
              (.ret (.cons (.b false) .nil))
              (.ret (.cons (.b false) .nil))))))))
        (.br (.get (.call 8 .nil) 0)
         (.br tCallse4
          (.ret (.cons (.b true) .nil))
          (.ret (.cons (.b false) .nil)))
         (.ret (.cons (.b false) .nil))))
       (.br (.eq (.get (.v 0) 2) (.i 3))
        (.br tCallse3
         (.br (.lt (.get (.v 1) 2) (.i 1))
          (.br (.get (.call 8 .nil) 0)
           (.br tCallse4
            (.ret (.cons (.b true) .nil))
            (.ret (.cons (.b false) .nil)))
           (.ret (.cons (.b false) .nil)))
          (.br (.eq (.get (.v 0) 2) (.i 6))
           (.br (.get (.call 8 .nil) 0)
            (.ret (.cons (.b false) .nil))
            (.ret (.cons (.b false) .nil)))
           (.br (.eq (.get (.v 0) 2) (.i 7))
            (.br (.get (.call 8 .nil) 0)
             (.ret (.cons (.b false) .nil))
             (.ret (.cons (.b false) .nil)))
            (.br (.eq (.get (.v 0) 2) (.i 5))
             (.br (.get (.call 8 .nil) 0)
              (.ret (.cons (.b false) .nil))
              (.ret (.cons (.b false) .nil)))
             (.br tCallse9
              (.br tCallse11
               (.br tCallse12
                (.br (.eq (.get (.v 0) 1) (.i 1))
                 (.br (.get (.call 8 .nil) 0)
                  (.br tCallse17
                   (.ret (.cons (.b false) .nil))
                   (.ret (.cons (.b false) .nil)))
                  (.ret (.cons (.b false) .nil)))
                 (.br tCallse14
                  (.br (.get (.call 8 .nil) 0)
                   (.br (.and (.eq (.i 0) (.get (.v 0) 0)) (.and (.eq (.i 0) (.get (.v 0) 1)) (.and (.eq (.i 0) (.get (.v 0) 2)) (.and (.eq (.i 0) (.get (.v 0) 3)) (.and (.eq (.i 0) (.get (.v 0) 4)) (.eq (.i 0) tCallse7))))))
                    (.ret (.cons (.b false) .nil))
                    (.ret (.cons (.b false) .nil)))
                   (.ret (.cons (.b false) .nil)))
                  (.br (.get (.call 8 .nil) 0)
                   (.ret (.cons (.b false) .nil))
                   (.ret (.cons (.b false) .nil)))))
                (.br (.get (.call 8 .nil) 0)
                 (.ret (.cons (.b false) .nil))
                 (.ret (.cons (.b false) .nil))))
               (.br (.get (.call 8 .nil) 0)
                (.ret (.cons (.b false) .nil))
                (.ret (.cons (.b false) .nil))))
              (.br (.get (.call 8 .nil) 0)
               (.ret (.cons (.b false) .nil))
               (.ret (.cons (.b false) .nil))))))))
         (.br (.get (.call 8 .nil) 0)
          (.br tCallse4
           (.ret (.cons (.b true) .nil))
           (.ret (.cons (.b false) .nil)))
          (.ret (.cons (.b false) .nil))))
        (.br tCallse3
         (.br (.lt (.get (.v 1) 2) (.i 1))
          (.br (.get (.call 8 .nil) 0)
           (.br tCallse4
            (.ret (.cons (.b true) .nil))
            (.ret (.cons (.b false) .nil)))
           (.ret (.cons (.b false) .nil)))
          (.br (.eq (.get (.v 0) 2) (.i 6))
           (.br (.get (.call 8 .nil) 0)
            (.ret (.cons (.b false) .nil))
            (.ret (.cons (.b false) .nil)))
           (.br (.eq (.get (.v 0) 2) (.i 7))
            (.br (.get (.call 8 .nil) 0)
             (.ret (.cons (.b false) .nil))
             (.ret (.cons (.b false) .nil)))
            (.br (.eq (.get (.v 0) 2) (.i 5))
             (.br (.get (.call 8 .nil) 0)
              (.ret (.cons (.b false) .nil))
              (.ret (.cons (.b false) .nil)))
             (.br tCallse9
              (.br tCallse11
               (.br tCallse12
                (.br (.eq (.get (.v 0) 1) (.i 1))
                 (.br (.get (.call 8 .nil) 0)
                  (.br tCallse17
                   (.ret (.cons (.b false) .nil))
                   (.ret (.cons (.b false) .nil)))
                  (.ret (.cons (.b false) .nil)))
                 (.br tCallse14
                  (.br (.get (.call 8 .nil) 0)
                   (.ret (.cons (.b false) .nil))
                   (.ret (.cons (.b false) .nil)))
                  (.br (.get (.call 8 .nil) 0)
                   (.ret (.cons (.b false) .nil))
                   (.ret (.cons (.b false) .nil)))))
                (.br (.get (.call 8 .nil) 0)
                 (.ret (.cons (.b false) .nil))
                 (.ret (.cons (.b false) .nil))))
               (.br (.get (.call 8 .nil) 0)
                (.ret (.cons (.b false) .nil))
                (.ret (.cons (.b false) .nil))))
              (.br (.get (.call 8 .nil) 0)
               (.ret (.cons (.b false) .nil))
               (.ret (.cons (.b false) .nil))))))))
         (.br (.get (.call 8 .nil) 0)
          (.br tCallse4
           (.ret (.cons (.b true) .nil))
           (.ret (.cons (.b false) .nil)))
          (.ret (.cons (.b false) .nil)))))))
     (.br tCallse2
      (.br (.eq (.get (.v 1) 2) (.i 6))
       (.br (.eq (.get (.v 0) 2) (.i 7))
        (.br tCallse3
         (.br (.get (.call 8 .nil) 0)
          (.br tCallse4
           (.ret (.cons (.b true) .nil))
           (.ret (.cons (.b false) .nil)))
          (.ret (.cons (.b false) .nil)))
         (.br (.get (.call 8 .nil) 0)
          (.ret (.cons (.b false) .nil))
          (.ret (.cons (.b false) .nil))))
        (.br tCallse18
         (.br tCallse3
          (.br (.get (.call 8 .nil) 0)
           (.br tCallse4
            (.ret (.cons (.b true) .nil))
            (.ret (.cons (.b false) .nil)))
           (.ret (.cons (.b false) .nil)))
          (.br (.get (.call 8 .nil) 0)
           (.ret (.cons (.b false) .nil))
           (.ret (.cons (.b false) .nil))))
         (.br tCallse3
          (.br (.get (.call 8 .nil) 0)
           (.br tCallse4
            (.ret tCallse19)
            (.ret (.cons (.b false) .nil)))
           (.ret (.cons (.b false) .nil)))
          (.br (.get (.call 8 .nil) 0)
           (.br tCallse20
            (.ret (.cons (.b false) .nil))
            (.ret (.cons (.b false) .nil)))
           (.ret (.cons (.b false) .nil))))))
       (.br (.eq (.get (.v 1) 2) (.i 7))
        (.br (.eq (.get (.v 0) 2) (.i 7))
         (.br tCallse3
          (.br (.get (.call 8 .nil) 0)
           (.br tCallse4
            (.ret (.cons (.b true) .nil))
            (.ret (.cons (.b false) .nil)))
           (.ret (.cons (.b false) .nil)))
          (.br (.get (.call 8 .nil) 0)
           (.ret (.cons (.b false) .nil))
           (.ret (.cons (.b false) .nil))))
         (.br tCallse18
          (.br tCallse3
           (.br (.get (.call 8 .nil) 0)
            (.br tCallse4
             (.ret (.cons (.b true) .nil))
             (.ret (.cons (.b false) .nil)))
            (.ret (.cons (.b false) .nil)))
           (.br (.get (.call 8 .nil) 0)
            (.ret (.cons (.b false) .nil))
            (.ret (.cons (.b false) .nil))))
          (.br tCallse3
           (.br (.get (.call 8 .nil) 0)
            (.br tCallse4
             (.ret tCallse19)
             (.ret (.cons (.b false) .nil)))
            (.ret (.cons (.b false) .nil)))
           (.br (.get (.call 8 .nil) 0)
            (.br tCallse20
             (.ret (.cons (.b false) .nil))
             (.ret (.cons (.b false) .nil)))
            (.ret (.cons (.b false) .nil))))))
        (.br tCallse3
         (.br (.get (.call 8 .nil) 0)
          (.br tCallse4
           (.ret (.cons (.b true) .nil))
           (.ret (.cons (.b false) .nil)))
          (.ret (.cons (.b false) .nil)))
         (.br (.get (.call 8 .nil) 0)
          (.br tCallse4
           (.ret (.cons (.b true) .nil))
           (.ret (.cons (.b false) .nil)))
          (.ret (.cons (.b false) .nil))))))
      (.br tCallse3
       (.br (.eq (.get (.v 1) 2) (.i 6))
        (.br (.eq (.get (.v 0) 2) (.i 7))
         (.br (.get (.call 8 .nil) 0)
          (.ret (.cons (.b false) .nil))
          (.ret (.cons (.b false) .nil)))
         (.br tCallse18
          (.br (.get (.call 8 .nil) 0)
           (.ret (.cons (.b false) .nil))
           (.ret (.cons (.b false) .nil)))
          (.br (.get (.call 8 .nil) 0)
           (.br tCallse21
            (.ret (.cons (.b false) .nil))
            (.ret (.cons (.b false) .nil)))
           (.ret (.cons (.b false) .nil)))))
        (.br (.eq (.get (.v 1) 2) (.i 7))
         (.br (.eq (.get (.v 0) 2) (.i 7))
          (.br (.get (.call 8 .nil) 0)
           (.ret (.cons (.b false) .nil))
           (.ret (.cons (.b false) .nil)))
          (.br tCallse18
           (.br (.get (.call 8 .nil) 0)
            (.ret (.cons (.b false) .nil))
            (.ret (.cons (.b false) .nil)))
           (.br (.get (.call 8 .nil) 0)
            (.br tCallse21
             (.ret (.cons (.b false) .nil))
             (.ret (.cons (.b false) .nil)))
            (.ret (.cons (.b false) .nil)))))
         (.br (.get (.call 8 .nil) 0)
          (.br tCallse4
           (.ret (.cons (.b true) .nil))
           (.ret (.cons (.b false) .nil)))
          (.ret (.cons (.b false) .nil)))))
       (.br (.get (.call 8 .nil) 0)
        (.br tCallse4
         (.ret (.cons (.b true) .nil))
         (.ret (.cons (.b false) .nil)))
        (.ret (.cons (.b false) .nil))))))))))
def c6 : Con := cLaw [.agg zoneK, .agg [i64, i64, i64]] [0, 0]
set_option maxRecDepth 100000 in
set_option maxHeartbeats 4000000 in
theorem k6 : ConsOk Try.prog ((6, c6) :: cons3) := by
  refine kk.of follows names (by kernel_rfl) 200 (T := tCalls) (by kernel_rfl) fun ds hp hn => ?_
  unfold tCalls
  obtain ⟨x0a, x0b, x0c, x0d, x0e, x0f, x1a, x1b, x1c, rfl⟩ : ∃ x0a x0b x0c x0d x0e x0f x1a x1b x1c : Int, ds = [.l [.i x0a, .i x0b, .i x0c, .i x0d, .i x0e, .i x0f], .l [.i x1a, .i x1b, .i x1c]] := ⟨_, _, _, _, _, _, _, _, _, hn.symm⟩
  have hp : lawPre _ _ _ = true := hp
  simp only [lawPre, wfs, wfSh, wfL, wfK, zoneK, i64, List.headD_cons, List.tail_cons, D.toI_i, D.toL_l, wf_i64, capped, Bool.and_eq_true, and_true] at hp
  simp only [VC_br, VC_ret, VC_must, vc0_C, vc0_R, BT_b, BF_b, BT_lt, BF_lt, BT_le, BF_le, BT_eq, BF_eq, BT_eqb, BF_eqb, BT_not, BF_not, BT_and, BF_and, B_get, B_v, B_co, I_i, I_v, I_get, I_wrap, I_add, I_sub, den_v, den_i, den_get, den_cons, den_nil, den_b, den_co, den_eq, den_le, den_lt, den_wrap, den_add, den_sub, den_mul, den_len, Sh.norm, normK, normL, D.toB_b, D.toI_i, D.toL_l, norms, List.headD_cons, List.tail_cons, wrap_i64, ρof_get, List.cons.injEq, D.b.injEq, and_true, tCallse0, tCallse1, tCallse2, tCallse3, tCallse4, tCallse5, tCallse6, tCallse7, tCallse8, tCallse9, tCallse10, tCallse11, tCallse12, tCallse13, tCallse14, tCallse15, tCallse16, tCallse17, tCallse18, tCallse19, tCallse20, tCallse21,  c6, cLaw, den_call con19, den_call con12, den_call con8, fldD_0, fldD_s, fld_def, fMay, fTrue, mayD_def, mayZ_T, mayZ_F]
  repeat' (first | (apply vc_and <;> intro _) | (apply vc_must; rotate_left; intro _; rotate_right))
  all_goals first | trivial | contradiction | omega
end Z
