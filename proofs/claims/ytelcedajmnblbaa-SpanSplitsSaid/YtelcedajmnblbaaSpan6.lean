/- A part of the proof: see the law's own text. Conditions: none. -/
import Derived.Test.YtelcedajmnblbaaSpan5
import Derived.Test.YtelcedajmnblbaaSplitMath
set_option linter.unusedVariables false
set_option linter.unusedSimpArgs false
namespace Sn
open Go Go.AM Go.Proofs
theorem I_quo {C : FuncId → Option Con} {ρ : Nat → D} {x y : X} : (X.quo x y).I C ρ = (x.I C ρ).tdiv (y.I C ρ) := rfl
theorem I_rem {C : FuncId → Option Con} {ρ : Nat → D} {x y : X} : (X.rem x y).I C ρ = (x.I C ρ).tmod (y.I C ρ) := rfl
theorem den_quo {C : FuncId → Option Con} {ρ : Nat → D} {x y : X} : (X.quo x y).den C ρ = .i ((x.I C ρ).tdiv (y.I C ρ)) := rfl
theorem den_rem {C : FuncId → Option Con} {ρ : Nat → D} {x y : X} : (X.rem x y).den C ρ = .i ((x.I C ρ).tmod (y.I C ρ)) := rfl
/-- the first k pieces -/
def pcs (a u E : Int) (k : Nat) : List Sp := (List.range k).map fun (i : Nat) => (stP a u i, enP a u E i - stP a u i)
theorem pcs_len (a u E : Int) (k : Nat) : (pcs a u E k).length = k := by simp [pcs]
theorem pcs_succ (a u E : Int) (k : Nat) : pcs a u E (k + 1) = pcs a u E k ++ [(stP a u k, enP a u E k - stP a u k)] := by simp [pcs, List.range_succ]
theorem pcs_nth (a u E : Int) {k : Nat} {i : Nat} (h : i < k) : nth (pcs a u E k) i = (stP a u i, enP a u E i - stP a u i) := by
  rw [nth_nat _ _ (by rw [pcs_len]; exact h)]
  simp [pcs]
def c7 : Con := cLaw [.agg spanK, .k i64] [0, 0]
def splJ (a n u : Int) (r : List D) (v : D) : Prop := ∃ k : Nat, r = (pcs a u (a + n) k).map spD ∧ v = .i (atP a u (a + n) k) ∧ (k : Int) ≤ (a + n - 1) / u - a / u + 1
def splK (a n u : Int) (at' i : Int) : Prop := 0 ≤ i ∧ i ≤ (a + n - 1) / u - a / u + 1 ∧ at' = atP a u (a + n) i
def splI (ds : List D) (k : Nat) (ρ : Nat → D) : Prop :=
  match k with
  | 2 => splJ (sp (ds.headD default)).1 (sp (ds.headD default)).2 (ds.tail.headD default).toI (ρ 2).toL (ρ 3)
  | _ => splK (sp (ds.headD default)).1 (sp (ds.headD default)).2 (ds.tail.headD default).toI (ρ 6).toI (ρ 7).toI
def splM (ds : List D) (k : Nat) (ρ : Nat → D) : Nat :=
  match k with
  | 2 => ((sp (ds.headD default)).1 + (sp (ds.headD default)).2 - (ρ 3).toI).toNat
  | _ => (4097 - (ρ 7).toI).toNat
theorem splI_2 (ds : List D) (ρ : Nat → D) : splI ds 2 ρ = splJ (sp (ds.headD default)).1 (sp (ds.headD default)).2 (ds.tail.headD default).toI (ρ 2).toL (ρ 3) := rfl
theorem splI_6 (ds : List D) (ρ : Nat → D) : splI ds 6 ρ = splK (sp (ds.headD default)).1 (sp (ds.headD default)).2 (ds.tail.headD default).toI (ρ 6).toI (ρ 7).toI := rfl
theorem splM_2 (ds : List D) (ρ : Nat → D) : splM ds 2 ρ = ((sp (ds.headD default)).1 + (sp (ds.headD default)).2 - (ρ 3).toI).toNat := rfl
theorem splM_6 (ds : List D) (ρ : Nat → D) : splM ds 6 ρ = (4097 - (ρ 7).toI).toNat := rfl
theorem splJ_0 {a n u : Int} (hu : 0 < u) (hn : MaySp a n) (h0 : ¬ n = 0) (hge : a / u ≤ (a + n - 1) / u) : splJ a n u [] (.i a) :=
  ⟨0, rfl, by rw [show ((0 : Nat) : Int) = 0 from rfl, at_0 hu (show a < a + n by omega)], by omega⟩
theorem splJ_len {a n u : Int} {r : List D} {v : D} (h : splJ a n u r v) (hb : (a + n - 1) / u - a / u < 4096) : (r.length : Int) ≤ 4096 := by
  obtain ⟨k, rfl, _, hk⟩ := h
  rw [List.length_map, pcs_len]
  omega
theorem splJ_at {a n u : Int} {r : List D} {v : D} (hu : 0 < u) (hn : MaySp a n) (h0 : ¬ n = 0) (h : splJ a n u r v) : a ≤ v.toI ∧ v.toI ≤ a + n := by
  obtain ⟨k, _, rfl, _⟩ := h
  simp only [D.toI_i, atP, stP]
  omega
theorem splJ_cong {a n u : Int} {r : List D} {v : D} {w w' z z' : Int} (h : splJ a n u (r ++ [.l [v, .i w]]) (.i z)) (hw : w' = w) (hz : z' = z) : splJ a n u (r ++ [.l [v, .i w']]) (.i z') := by rw [hw, hz]; exact h
theorem splJ_end {a n u : Int} {r : List D} {v : D} (hu : 0 < u) (hm : MaySp a n) (h0 : ¬ n = 0) (h : splJ a n u r v) (hge : a + n ≤ v.toI) : (r.length : Int) = (a + n - 1) / u - a / u + 1 := by
  obtain ⟨k, rfl, rfl, hk⟩ := h
  simp only [D.toI_i] at hge
  rw [List.length_map, pcs_len]
  have : ¬ ((k : Int) ≤ (a + n - 1) / u - a / u) := fun hle => by
    have := st_lt hu (show a < a + n by omega) hle
    unfold atP at hge
    omega
  omega
theorem splK_0 {a n u : Int} (hu : 0 < u) (hm : MaySp a n) (h0 : ¬ n = 0) (hge : a / u ≤ (a + n - 1) / u) : splK a n u a 0 :=
  ⟨by omega, by omega, (at_0 hu (show a < a + n by omega)).symm⟩
theorem splK_end {a n u v i : Int} (hu : 0 < u) (hm : MaySp a n) (h0 : ¬ n = 0) (h : splK a n u v i) (hi : (a + n - 1) / u - a / u + 1 ≤ i) : v = a + n := by
  obtain ⟨h1, h2, rfl⟩ := h
  obtain rfl : i = (a + n - 1) / u - a / u + 1 := by omega
  exact at_end hu (by omega)
theorem splK_nn {a n u v i : Int} (h : splK a n u v i) : 0 ≤ i := h.1
theorem spl7 {p1 p2 x k : Int} (h1 : 0 ≤ p1) (h2 : 1 ≤ p2) (h3 : p1 + p2 ≤ 9223372036854775807) (e : (p1 + p2 - 1).tdiv x = k) :
    ((((p1 + p2 + 9223372036854775808) % 18446744073709551616 - 9223372036854775808 - 1 + 9223372036854775808) % 18446744073709551616 - 9223372036854775808).tdiv x + 9223372036854775808) % 18446744073709551616 - 9223372036854775808 = (k + 9223372036854775808) % 18446744073709551616 - 9223372036854775808 := by
  have w : ((p1 + p2 + 9223372036854775808) % 18446744073709551616 - 9223372036854775808 - 1 + 9223372036854775808) % 18446744073709551616 - 9223372036854775808 = p1 + p2 - 1 := by omega
  rw [w, e]
theorem spl6 {a n u : Int} {d2 v : D} {v6 i : Int} (hu : 0 < u) (hm : MaySp a n) (h0 : ¬ n = 0) (hJ : splJ a n u d2.toL v) (hl : (d2.toL.length : Int) = (a + n - 1) / u - a / u + 1) (hK : splK a n u v6 i) (hi : i < d2.toL.length) :
    (fldD (atD d2 i) 0).toI = v6 ∧ 1 ≤ (fldD (atD d2 i) 1).toI ∧ (fldD (atD d2 i) 0).toI + (fldD (atD d2 i) 1).toI ≤ a + n ∧ a ≤ (fldD (atD d2 i) 0).toI ∧
    (fldD (atD d2 i) 0).toI.tdiv u = a / u + i ∧ ((fldD (atD d2 i) 0).toI + (fldD (atD d2 i) 1).toI - 1).tdiv u = a / u + i ∧ splK a n u (v6 + (fldD (atD d2 i) 1).toI) (i + 1) := by
  obtain ⟨k, hr, _, hk⟩ := hJ
  obtain ⟨h1, h2, rfl⟩ := hK
  have ha : a < a + n := by omega
  have hle : i ≤ (a + n - 1) / u - a / u := by omega
  have hs := st_lt hu ha hle
  have hp := piece_ok hu h1 ha hle
  have hat : atP a u (a + n) i = stP a u i := by unfold atP; omega
  have hkl : i < k := by rw [hr, List.length_map, pcs_len] at hi; exact hi
  have e : atD d2 i = spD (stP a u i, enP a u (a + n) i - stP a u i) := by
    obtain ⟨j, rfl⟩ := Int.eq_ofNat_of_zero_le h1
    unfold atD
    rw [hr, List.getElem?_map]
    have := pcs_nth a u (a + n) (show j < k by omega)
    unfold nth at this
    have hj : j < (pcs a u (a + n) k).length := by rw [pcs_len]; omega
    simp only [Int.toNat_natCast] at this ⊢
    rw [List.getElem?_eq_getElem hj] at this ⊢
    simp only [Option.getD_some, Option.map_some] at this ⊢
    rw [this]
  rw [e]
  show stP a u i = _ ∧ 1 ≤ enP a u (a + n) i - stP a u i ∧ stP a u i + (enP a u (a + n) i - stP a u i) ≤ a + n ∧ a ≤ stP a u i ∧ (stP a u i).tdiv u = _ ∧ (stP a u i + (enP a u (a + n) i - stP a u i) - 1).tdiv u = _ ∧ splK a n u (_ + (enP a u (a + n) i - stP a u i)) _
  rw [hat]
  have e2 : stP a u i + (enP a u (a + n) i - stP a u i) = enP a u (a + n) i := by omega
  rw [e2]
  refine ⟨rfl, hp.1, hp.2.2.2.1, hp.2.2.2.2.1, ?_, ?_, by omega, by omega, (at_succ hu h1).symm⟩
  · rw [Int.tdiv_eq_ediv_of_nonneg (by omega)]; exact hp.2.1
  · rw [Int.tdiv_eq_ediv_of_nonneg (by omega)]; exact hp.2.2.1
theorem splK_cong {a n u v i v' i' : Int} (h : splK a n u v i) (hv : v' = v) (hi : i' = i) : splK a n u v' i' := by rw [hv, hi]; exact h
/-- a round -/
theorem splJ_step {a n u : Int} {r : List D} {v : D} (hu : 0 < u) (hm : MaySp a n) (h0 : ¬ n = 0) (h : splJ a n u r v) (hlt : v.toI < a + n) :
    ∃ w : Int, w = min (u - v.toI % u) (a + n - v.toI) ∧ 1 ≤ w ∧ w ≤ a + n - v.toI ∧ v.toI.tmod u = v.toI % u ∧ 0 ≤ v.toI % u ∧ v.toI % u < u ∧ splJ a n u (r ++ [.l [v, .i w]]) (.i (v.toI + w)) := by
  obtain ⟨k, rfl, rfl, hk⟩ := h
  simp only [D.toI_i] at *
  have ha : a < a + n := by omega
  obtain ⟨e, hs⟩ := at_lt hu hlt
  have hk0 : (0 : Int) ≤ k := by omega
  have hle := le_of_st hu hs
  have hp := piece_ok hu hk0 ha hle
  have hn := piece_n hu hk0 hs
  have h1 := Int.emod_nonneg (stP a u k) (show u ≠ 0 by omega)
  have h2 := Int.emod_lt_of_pos (stP a u k) hu
  rw [e]
  refine ⟨enP a u (a + n) k - stP a u k, hn.symm, hp.1, by have := hp.2.2.2.1; omega, Int.tmod_eq_emod_of_nonneg (by omega), h1, h2, k + 1, ?_, ?_, by omega⟩
  · rw [pcs_succ, List.map_append]; rfl
  · rw [show ((k + 1 : Nat) : Int) = (k : Int) + 1 by omega, at_succ hu hk0]
    congr 1
    omega
theorem ov2_2_0 (ρ d : Nat → D) : overR ρ 2 2 d 0 = ρ 0 := rfl
theorem ov2_2_1 (ρ d : Nat → D) : overR ρ 2 2 d 1 = ρ 1 := rfl
theorem ov2_2_2 (ρ d : Nat → D) : overR ρ 2 2 d 2 = d 2 := rfl
theorem ov2_2_3 (ρ d : Nat → D) : overR ρ 2 2 d 3 = d 3 := rfl
theorem su2_2_2_3_2 (C : FuncId → Option Con) (ρ : Nat → D) (w2 w3 : X) : subR C ρ [(2, w2), (3, w3)] 2 = w2.den C ρ := rfl
theorem su2_2_2_3_3 (C : FuncId → Option Con) (ρ : Nat → D) (w2 w3 : X) : subR C ρ [(2, w2), (3, w3)] 3 = w3.den C ρ := rfl
theorem ov6_2_0 (ρ d : Nat → D) : overR ρ 6 2 d 0 = ρ 0 := rfl
theorem ov6_2_1 (ρ d : Nat → D) : overR ρ 6 2 d 1 = ρ 1 := rfl
theorem ov6_2_2 (ρ d : Nat → D) : overR ρ 6 2 d 2 = ρ 2 := rfl
theorem ov6_2_3 (ρ d : Nat → D) : overR ρ 6 2 d 3 = ρ 3 := rfl
theorem ov6_2_4 (ρ d : Nat → D) : overR ρ 6 2 d 4 = ρ 4 := rfl
theorem ov6_2_5 (ρ d : Nat → D) : overR ρ 6 2 d 5 = ρ 5 := rfl
theorem ov6_2_6 (ρ d : Nat → D) : overR ρ 6 2 d 6 = d 6 := rfl
theorem ov6_2_7 (ρ d : Nat → D) : overR ρ 6 2 d 7 = d 7 := rfl
theorem su6_2_6_7_6 (C : FuncId → Option Con) (ρ : Nat → D) (w6 w7 : X) : subR C ρ [(6, w6), (7, w7)] 6 = w6.den C ρ := rfl
theorem su6_2_6_7_7 (C : FuncId → Option Con) (ρ : Nat → D) (w6 w7 : X) : subR C ρ [(6, w6), (7, w7)] 7 = w7.den C ρ := rfl
def sSplitse0 : X := (.cons (.co (.agg [(.int .i64), (.int .i64)]) (.cons (.get (.v 0) 0) (.cons (.get (.v 0) 1) .nil))) .nil)
def sSplitse1 : X := (.get (.call 14 sSplitse0) 0)
def sSplitse2 : X := (.get (.call 15 sSplitse0) 0)
def sSplitse3 : X := (.wrap .i64 (.quo (.get (.v 0) 0) (.v 1)))
def sSplitse4 : X := (.wrap .i64 (.add (.get (.v 0) 0) (.get (.v 0) 1)))
def sSplitse5 : X := (.wrap .i64 (.sub (.wrap .i64 (.quo (.wrap .i64 (.sub sSplitse4 (.i 1))) (.v 1))) sSplitse3))
def sSplitse6 : X := (.le (.i 4096) sSplitse5)
def sSplitse7 : X := (.wrap .i64 (.add sSplitse5 (.i 1)))
def sSplitse8 : X := (.eq (.i 0) sSplitse7)
def sSplitse9 : X := (.cons (.co (.k .bool) (.eq (.v 2) sSplitse4)) .nil)
def sSplitse10 : X := (.wrap .i64 (.sub sSplitse2 (.v 3)))
def sSplitse11 : X := (.wrap .i64 (.sub (.v 1) (.rem (.v 3) (.v 1))))
def sSplitse12 : X := (.ite (.lt sSplitse10 sSplitse11) sSplitse10 sSplitse11)
def sSplitse13 : X := (.cat (.v 2) (.cons (.cons (.v 3) (.cons sSplitse12 .nil)) .nil))
def sSplitse14 : X := (.cons (.co (.k .bool) (.eq (.len (.v 2)) (.i 0))) .nil)
def sSplitse15 : X := (.wrap .i64 (.add sSplitse3 (.v 7)))
def sSplits : Tree := (.br (.get (.call 13 sSplitse0) 0)
 (.br (.eq (.get (.v 0) 1) (.i 0))
  (.br (.get (.call 12 .nil) 0)
   (.br sSplitse1
    (.ret (.cons (.b true) .nil))
    (.ret (.cons (.b true) .nil)))
   (.ret (.cons (.b false) .nil)))
  (.br (.lt (.v 1) (.i 1))
   (.br (.get (.call 12 .nil) 0)
    (.br sSplitse1
     (.ret (.cons (.b true) .nil))
     (.ret (.cons (.b true) .nil)))
    (.ret (.cons (.b false) .nil)))
   (.must (.not (.eq (.v 1) (.i 0)))
    (.must (.not (.eq (.v 1) (.i 0)))
    (.br (.le (.i 4096) (.wrap .i64 (.sub (.wrap .i64 (.quo (.wrap .i64 (.sub sSplitse2 (.i 1))) (.v 1))) sSplitse3)))
    (.br (.get (.call 12 .nil) 0)
     (.br sSplitse1
      (.must (.not (.eq (.v 1) (.i 0)))
       (.must (.not (.eq (.v 1) (.i 0)))
       (.br sSplitse6
       (.ret (.cons (.b true) .nil))
       (.br sSplitse8
        (.loop 2 2 2 [(2, (.get (.v 0) 0)), (3, (.i 0))]
         (.br (.lt (.v 3) (.i 0))
         (.stuck 2)
         (.ret sSplitse9)))
        (.ret (.cons (.b false) .nil))))))
      (.ret (.cons (.b true) .nil)))
     (.ret (.cons (.b false) .nil)))
    (.loop 2 2 2 [(2, .nil), (3, (.get (.v 0) 0))]
     (.br (.lt (.v 3) sSplitse2)
     (.must (.not (.eq (.v 1) (.i 0)))
      (.must (.le (.mul (.add (.len (.v 2)) (.i 1)) (.i 16)) (.i 140737488355328))
      (.must (.le (.add (.len (.v 2)) (.i 1)) (.i 140737488355328))
      (.must (.eq (.add (.len (.v 2)) (.i 1)) (.len sSplitse13))
      (.again 2 2 2 [(2, sSplitse13), (3, (.wrap .i64 (.add (.v 3) sSplitse12)))])))))
     (.br (.get (.call 12 .nil) 0)
      (.br sSplitse1
       (.must (.not (.eq (.v 1) (.i 0)))
        (.must (.not (.eq (.v 1) (.i 0)))
        (.br sSplitse6
        (.ret sSplitse14)
        (.br (.eq (.len (.v 2)) sSplitse7)
         (.loop 6 6 2 [(6, (.get (.v 0) 0)), (7, (.i 0))]
          (.br (.lt (.v 7) (.len (.v 2)))
          (.must (.le (.i 0) (.v 7))
           (.br (.eq (.get (.at (.v 2) (.v 7)) 0) (.v 6))
           (.br (.lt (.get (.at (.v 2) (.v 7)) 1) (.i 1))
            (.ret (.cons (.b false) .nil))
            (.br (.lt (.wrap .i64 (.sub sSplitse4 (.v 6))) (.get (.at (.v 2) (.v 7)) 1))
             (.ret (.cons (.b false) .nil))
             (.must (.not (.eq (.v 1) (.i 0)))
              (.br (.eq (.wrap .i64 (.quo (.get (.at (.v 2) (.v 7)) 0) (.v 1))) sSplitse15)
              (.must (.not (.eq (.v 1) (.i 0)))
               (.br (.eq (.wrap .i64 (.quo (.wrap .i64 (.sub (.wrap .i64 (.add (.get (.at (.v 2) (.v 7)) 0) (.get (.at (.v 2) (.v 7)) 1))) (.i 1))) (.v 1))) sSplitse15)
               (.again 6 6 2 [(6, (.wrap .i64 (.add (.v 6) (.get (.at (.v 2) (.v 7)) 1)))), (7, (.wrap .i64 (.add (.v 7) (.i 1))))])
               (.ret (.cons (.b false) .nil))))
              (.ret (.cons (.b false) .nil))))))
           (.ret (.cons (.b false) .nil))))
          (.ret (.cons (.co (.k .bool) (.eq (.v 6) sSplitse4)) .nil))))
         (.ret (.cons (.b false) .nil))))))
       (.ret sSplitse14))
      (.ret (.cons (.b false) .nil))))))))))
 (.br (.get (.call 12 .nil) 0)
  (.br sSplitse1
   (.br (.eq (.get (.v 0) 1) (.i 0))
    (.ret (.cons (.b true) .nil))
    (.br (.lt (.v 1) (.i 1))
     (.ret (.cons (.b true) .nil))
     (.must (.not (.eq (.v 1) (.i 0)))
      (.must (.not (.eq (.v 1) (.i 0)))
      (.br sSplitse6
      (.ret (.cons (.b true) .nil))
      (.br sSplitse8
       (.loop 2 2 2 [(2, (.get (.v 0) 0)), (3, (.i 0))]
        (.br (.lt (.v 3) (.i 0))
        (.stuck 2)
        (.ret sSplitse9)))
       (.ret (.cons (.b false) .nil))))))))
   (.ret (.cons (.b true) .nil)))
  (.ret (.cons (.b false) .nil))))
set_option maxRecDepth 100000 in
set_option maxHeartbeats 40000000 in
theorem k7 : ConsOk Try.prog ((7, c7) :: l18) := by
  refine ConsOk.ofC follows names k18 (by kernel_rfl) (fun f r => if f = 31 then some { cnt := 2, slots := [(5, .row 0), (6, .var i64 1)], news := [⟨spanK, true, false, 0⟩] } else if f = 7 then some { cnt := 2, slots := [(8, .var i64 0), (9, .var i64 1)] } else none) 100 (T := sSplits) (by kernel_rfl) (splI) (splM) fun ds hp hn => ?_
  unfold sSplits
  have hn2 := hn
  simp only [c7, cLaw, norms, norm_k, norm_agg, row_norm, normL, normK] at hn2
  obtain ⟨a0, n0, x1, rfl⟩ : ∃ (a0 : Int) (n0 : Int) (x1 : Int), ds = [.l [.i a0, .i n0], .i x1] := ⟨_, _, _, hn2.symm⟩
  have hp : lawPre _ _ _ = true := hp
  simp only [lawPre, wfs, wfSh, wfL, wfK, List.headD_cons, List.tail_cons, D.toI_i, D.toL_l, wf_i64, capped, Bool.and_eq_true, and_true, decide_eq_true_eq, List.length_map] at hp
  by_cases hM : MaySp a0 n0 ∧ ¬ n0 = 0 ∧ 1 ≤ x1
  case neg =>
    simp only [VC_br, VC_ret, VC_must, VC_loop, VC_again, vcJ_C, vcJ_R, vcJ_J, vcJ_ms, upN_eq, BT_b, BF_b, BT_lt, BF_lt, BT_le, BF_le, BT_eq, BF_eq, BTi_eqb, BFi_eqb, BT_not, BF_not, BT_and, BF_and, B_get, B_v, B_co, I_i, I_v, I_get, I_wrap, I_add, I_sub, I_mul, I_ite, toI_ite, I_len, I_co, den_v, den_i, den_get, den_at, den_cons, den_nil, den_b, den_co, den_eq, den_le, den_lt, den_wrap, den_add, den_sub, den_mul, den_len, norm_k, norm_agg, normK, normL, D.toB_b, D.toI_i, D.toL_l, norms, List.headD_cons, List.tail_cons, wrap_i64, ρof_get, fldD_0, fldD_s, fld_def, List.cons.injEq, D.b.injEq, D.i.injEq, D.l.injEq, and_true, true_and, true_or, or_true, false_or, or_false, false_and, and_false, Bool.true_eq_false, Bool.false_eq_true, false_implies, true_implies, implies_true, not_true_eq_false, not_false_eq_true, ne_eq, mayS_T, mayS_F, sp_l, spD_def, at1, at2, sSplitse0, sSplitse1, sSplitse2, sSplitse3, sSplitse4, sSplitse5, sSplitse6, sSplitse7, sSplitse8, sSplitse9, sSplitse10, sSplitse11, sSplitse12, sSplitse13, sSplitse14, sSplitse15,  den_call (show conOf l18 12 = some cTrue from rfl), den_call (show conOf l18 13 = some cMay from rfl), den_call (show conOf l18 14 = some cMay from rfl), den_call (show conOf l18 15 = some cEnd from rfl), B_pre (show conOf l18 12 = some cTrue from rfl), B_pre (show conOf l18 13 = some cMay from rfl), B_pre (show conOf l18 14 = some cMay from rfl), B_pre (show conOf l18 15 = some cEnd from rfl),  c7, cLaw, fTrue, fMay, fEnd, I_quo, I_rem, den_quo, den_rem, den_cat, den_at, den_ite, splI_2, splI_6, splM_2, splM_6, List.length_append, List.length_cons, List.length_nil, ov2_2_0, ov2_2_1, ov2_2_2, ov2_2_3, su2_2_2_3_2, su2_2_2_3_3, ov6_2_0, ov6_2_1, ov6_2_2, ov6_2_3, ov6_2_4, ov6_2_5, ov6_2_6, ov6_2_7, su6_2_6_7_6, su6_2_6_7_7]
    repeat' (first | (with_reducible apply And.intro) | intro _)
    all_goals first | omega | (exfalso; omega)
  obtain ⟨hM1, hM2, hM3⟩ := hM
  have hu : 0 < x1 := by omega
  have r1 : endS a0 n0 = a0 + n0 := if_pos hM1
  have r2 : (a0 + n0 + 9223372036854775808) % 18446744073709551616 - 9223372036854775808 = a0 + n0 := by omega
  have r3 : (a0 + n0 - 1 + 9223372036854775808) % 18446744073709551616 - 9223372036854775808 = a0 + n0 - 1 := by omega
  have r4 : a0.tdiv x1 = a0 / x1 := Int.tdiv_eq_ediv_of_nonneg (by omega)
  have r5 : (a0 + n0 - 1).tdiv x1 = (a0 + n0 - 1) / x1 := Int.tdiv_eq_ediv_of_nonneg (by omega)
  have b1 : 0 ≤ a0 / x1 := Int.ediv_nonneg (by omega) (by omega)
  have b2 : a0 / x1 ≤ (a0 + n0 - 1) / x1 := Int.ediv_le_ediv hu (by omega)
  have b3 : (a0 + n0 - 1) / x1 ≤ a0 + n0 - 1 := Int.ediv_le_self _ (by omega)
  have r6 : (a0 / x1 + 9223372036854775808) % 18446744073709551616 - 9223372036854775808 = a0 / x1 := by omega
  have r7 : ((a0 + n0 - 1) / x1 + 9223372036854775808) % 18446744073709551616 - 9223372036854775808 = (a0 + n0 - 1) / x1 := by omega
  have r8 : ((a0 + n0 - 1) / x1 - a0 / x1 + 9223372036854775808) % 18446744073709551616 - 9223372036854775808 = (a0 + n0 - 1) / x1 - a0 / x1 := by omega
  have r9 : ((a0 + n0 - 1) / x1 - a0 / x1 + 1 + 9223372036854775808) % 18446744073709551616 - 9223372036854775808 = (a0 + n0 - 1) / x1 - a0 / x1 + 1 := by omega
  simp only [VC_br, VC_ret, VC_must, VC_loop, VC_again, vcJ_C, vcJ_R, vcJ_J, vcJ_ms, upN_eq, BT_b, BF_b, BT_lt, BF_lt, BT_le, BF_le, BT_eq, BF_eq, BTi_eqb, BFi_eqb, BT_not, BF_not, BT_and, BF_and, B_get, B_v, B_co, I_i, I_v, I_get, I_wrap, I_add, I_sub, I_mul, I_ite, toI_ite, I_len, I_co, den_v, den_i, den_get, den_at, den_cons, den_nil, den_b, den_co, den_eq, den_le, den_lt, den_wrap, den_add, den_sub, den_mul, den_len, norm_k, norm_agg, normK, normL, D.toB_b, D.toI_i, D.toL_l, norms, List.headD_cons, List.tail_cons, wrap_i64, ρof_get, fldD_0, fldD_s, fld_def, List.cons.injEq, D.b.injEq, D.i.injEq, D.l.injEq, and_true, true_and, true_or, or_true, false_or, or_false, false_and, and_false, Bool.true_eq_false, Bool.false_eq_true, false_implies, true_implies, implies_true, not_true_eq_false, not_false_eq_true, ne_eq, mayS_T, mayS_F, sp_l, spD_def, at1, at2, sSplitse0, sSplitse1, sSplitse2, sSplitse3, sSplitse4, sSplitse5, sSplitse6, sSplitse7, sSplitse8, sSplitse9, sSplitse10, sSplitse11, sSplitse12, sSplitse13, sSplitse14, sSplitse15,  den_call (show conOf l18 12 = some cTrue from rfl), den_call (show conOf l18 13 = some cMay from rfl), den_call (show conOf l18 14 = some cMay from rfl), den_call (show conOf l18 15 = some cEnd from rfl), B_pre (show conOf l18 12 = some cTrue from rfl), B_pre (show conOf l18 13 = some cMay from rfl), B_pre (show conOf l18 14 = some cMay from rfl), B_pre (show conOf l18 15 = some cEnd from rfl),  c7, cLaw, fTrue, fMay, fEnd, I_quo, I_rem, den_quo, den_rem, den_cat, den_at, den_ite, splI_2, splI_6, splM_2, splM_6, List.length_append, List.length_cons, List.length_nil, ov2_2_0, ov2_2_1, ov2_2_2, ov2_2_3, su2_2_2_3_2, su2_2_2_3_3, ov6_2_0, ov6_2_1, ov6_2_2, ov6_2_3, ov6_2_4, ov6_2_5, ov6_2_6, ov6_2_7, su6_2_6_7_6, su6_2_6_7_7, r1, r2, r3, r4, r5, r6, r7, r8, r9]
  repeat' (first | (with_reducible apply And.intro) | intro _)
  all_goals first
    | omega
    | with_reducible exact splJ_0 hu hM1 hM2 (by omega)
    | with_reducible exact splK_0 hu hM1 hM2 b2
    | with_reducible exact splK_nn (show splK a0 n0 x1 _ _ by with_reducible assumption)
    | (have he := splJ_end hu hM1 hM2 (show splJ a0 n0 x1 _ _ by with_reducible assumption) (by with_reducible assumption)
       first
       | omega
       | (have := splK_end hu hM1 hM2 (show splK a0 n0 x1 _ _ by with_reducible assumption) (by omega); omega)
       | (obtain ⟨e1, e2, e3, e4, e5, e6, e7⟩ := spl6 hu hM1 hM2 (show splJ a0 n0 x1 _ _ by with_reducible assumption) he (show splK a0 n0 x1 _ _ by with_reducible assumption) (by with_reducible assumption)
          have e8 := e7.1
          have e9 := e7.2.1
          first
          | omega
          | with_reducible exact splK_cong e7 (by omega) (by omega)
          | exact absurd (spl7 (by omega) (by omega) (by omega) e6) (by with_reducible assumption)))
    | (have hl := splJ_len (show splJ a0 n0 x1 _ _ by with_reducible assumption) (by with_reducible assumption); omega)
    | (have ha := splJ_at hu hM1 hM2 (show splJ a0 n0 x1 _ _ by with_reducible assumption)
       obtain ⟨w, e1, e2, e3, e4, e5, e6, e7⟩ := splJ_step hu hM1 hM2 (show splJ a0 n0 x1 _ _ by with_reducible assumption) (by with_reducible assumption)
       rw [e4]
       split
       all_goals first
         | omega
         | with_reducible exact splJ_cong e7 (by omega) (by omega))
end Sn
