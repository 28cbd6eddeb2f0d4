/- Pieces of a span, cut at multiples of a unit: plain arithmetic. Conditions: none. -/
import Derived.Test.YtelcedajmnblbaaAm1
set_option linter.unusedVariables false
set_option linter.unusedSimpArgs false
namespace Sn
theorem div_is {x q u : Int} (hu : 0 < u) (h1 : q * u ≤ x) (h2 : x < (q + 1) * u) : x / u = q := by
  have a := (Int.le_ediv_iff_mul_le hu).2 h1
  have b := (Int.ediv_lt_iff_lt_mul hu).2 h2
  omega
theorem mul_s (c u : Int) (k : Int) : (c + (k + 1)) * u = (c + k) * u + u := by rw [← Int.add_assoc, Int.add_mul (c + k) 1 u, Int.one_mul]
theorem mul_s' (c u : Int) : (c + 1) * u = c * u + u := by rw [Int.add_mul, Int.one_mul]
def stP (a u i : Int) : Int := max a ((a / u + i) * u)
def enP (a u E i : Int) : Int := min E ((a / u + (i + 1)) * u)
def atP (a u E i : Int) : Int := min E (stP a u i)

theorem low {u : Int} (hu : 0 < u) (a : Int) : (a / u) * u ≤ a ∧ a < (a / u) * u + u := by
  have h1 := Int.ediv_mul_le a (show u ≠ 0 by omega)
  have h2 := Int.lt_ediv_add_one_mul_self a hu
  rw [mul_s'] at h2
  exact ⟨h1, h2⟩
theorem grow {u : Int} (hu : 0 < u) {c k : Int} (hk : 0 ≤ k) : c * u ≤ (c + k) * u := Int.mul_le_mul_of_nonneg_right (by omega) (by omega)
theorem le_of_st {a u E : Int} (hu : 0 < u) {i : Int} (h : stP a u i < E) : i ≤ (E - 1) / u - a / u := by
  unfold stP at h
  have : a / u + i ≤ (E - 1) / u := (Int.le_ediv_iff_mul_le hu).2 (by omega)
  omega
theorem st_lt {a u E : Int} (hu : 0 < u) {i : Int} (ha : a < E) (h : i ≤ (E - 1) / u - a / u) : stP a u i < E := by
  unfold stP
  have : (a / u + i) * u ≤ E - 1 := (Int.le_ediv_iff_mul_le hu).1 (by omega)
  omega
theorem st_succ {a u : Int} (hu : 0 < u) {i : Int} (hi : 0 ≤ i) : stP a u (i + 1) = (a / u + (i + 1)) * u := by
  unfold stP
  have h := low hu a
  have g := grow hu (c := a / u) hi
  rw [mul_s]
  omega
theorem at_succ {a u E : Int} (hu : 0 < u) {i : Int} (hi : 0 ≤ i) : atP a u E (i + 1) = enP a u E i := by
  unfold atP enP
  rw [st_succ hu hi]
theorem st_mod {a u : Int} (hu : 0 < u) {i : Int} (hi : 0 ≤ i) : u - stP a u i % u = (a / u + (i + 1)) * u - stP a u i := by
  have h := low hu a
  have g := grow hu (c := a / u) hi
  have q : stP a u i / u = a / u + i := div_is hu (by unfold stP; omega) (by rw [Int.add_assoc, mul_s]; unfold stP; omega)
  rw [Int.emod_def, q, mul_s, Int.mul_comm u]
  omega
theorem piece_n {a u E : Int} (hu : 0 < u) {i : Int} (hi : 0 ≤ i) (h : stP a u i < E) : min (u - stP a u i % u) (E - stP a u i) = enP a u E i - stP a u i := by
  rw [st_mod hu hi]
  unfold enP
  omega
theorem piece_ok {a u E : Int} (hu : 0 < u) {i : Int} (hi : 0 ≤ i) (ha : a < E) (h : i ≤ (E - 1) / u - a / u) :
    1 ≤ enP a u E i - stP a u i ∧ stP a u i / u = a / u + i ∧ (enP a u E i - 1) / u = a / u + i ∧ enP a u E i ≤ E ∧ a ≤ stP a u i ∧ stP a u i < E := by
  have hl := low hu a
  have g := grow hu (c := a / u) hi
  have s := st_lt hu ha h
  have hm : (a / u + i) * u ≤ E - 1 := (Int.le_ediv_iff_mul_le hu).1 (by omega)
  refine ⟨?_, div_is hu (by unfold stP; omega) (by rw [Int.add_assoc, mul_s]; unfold stP; omega), div_is hu ?_ ?_, by unfold enP; omega, by unfold stP; omega, s⟩
  · unfold enP; rw [mul_s]; unfold stP at *; omega
  · unfold enP; rw [mul_s]; omega
  · unfold enP; rw [Int.add_assoc, mul_s]; omega
theorem at_end {a u E : Int} (hu : 0 < u) (ha : a < E) : atP a u E ((E - 1) / u - a / u + 1) = E := by
  have h := low hu (E - 1)
  have hge : a / u ≤ (E - 1) / u := Int.ediv_le_ediv hu (by omega)
  rw [at_succ hu (by omega)]
  unfold enP
  rw [show a / u + ((E - 1) / u - a / u + 1) = (E - 1) / u + 1 by omega, mul_s']
  omega
theorem at_0 {a u E : Int} (hu : 0 < u) (ha : a < E) : atP a u E 0 = a := by
  have h := low hu a
  unfold atP stP
  rw [Int.add_zero]
  omega
theorem at_lt {a u E : Int} (_hu : 0 < u) {i : Int} (h : atP a u E i < E) : atP a u E i = stP a u i ∧ stP a u i < E := by
  unfold atP at *
  omega
end Sn
