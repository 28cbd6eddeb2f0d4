/- The law SpanPairs returns true for every input. Conditions: none. -/
import Derived.Test.YtelcedajmnblbaaRows
import Derived.Test.YtelcedajmnblbaaSpan5
import Derived.WalkKit
import Derived.ProofKit
import Derived.OpenShut
import Derived.ChangeOld
import Derived.Below
import Derived.SizedLaws
set_option linter.unusedVariables false
set_option linter.unusedSimpArgs false
namespace Go.Proofs.Ytelcedajmnblbaa.spanPairs
open Go.AM Sn
theorem own : ownKnob Try.prog.godebug = none := by kernel_rfl
set_option maxRecDepth 100000 in
theorem up (os : Os) (started : os.Started) (H : Type) (enc : TypeId × Value → H) :
    ReturnsInHanded {} Try.checked os 3 .any (Rows.spanPairsSpec.pre6 enc Try.prog Try.f3 Rows.spanPairsRow.domain false) (Rows.spanPairsSpec.post enc Try.prog Try.f3 false true false false) :=
  Go.AM.lifted (C := Try.checked) (n := 6) (ss := [.agg spanK, .agg spanK, .k i64]) (caps := [0, 0, 0]) own started (by kernel_rfl) Try.func3
    (ChangeSpec.witness6 (enc := enc) (C := Try.checked) false ⟨#[], #[.agg #[.int .i64 0, .int .i64 0], .agg #[.int .i64 0, .int .i64 0], .int .i64 0], []⟩ 8 (by kernel_rfl) (by kernel_rfl) (by kernel_rfl) (by kernel_rfl))
    rfl rfl (by kernel_rfl) (by kernel_rfl) (by kernel_rfl) (by kernel_rfl)
    (fun ds h => match ds, h with
      | [d1, d2, d3], _ => rfl)
    (k3 3 c3 rfl)
theorem over : Rows.spanPairsRow.holds Try.pinned (OpenSpec.ofChange Rows.spanPairsSpec) :=
  OpenClaim.holds_of_wide 3 Try.f3 rfl rfl rfl rfl rfl rfl rfl ⟨rfl, rfl, rfl, rfl, rfl⟩ rfl rfl rfl rfl rfl (by kernel_rfl) Try.func3 (by kernel_rfl)
    (of_decide_eq_true (by kernel_rfl)) (by unfold Func.isWrapper; first | (rw [if_pos (by decide +kernel)]; kernel_rfl) | (rw [if_neg (by decide +kernel)]; exact ⟨rfl, rfl⟩))
    (fun os started H enc _ => up os started H enc)
theorem proved : Rows.SpanPairsSaid := over
#print axioms proved
end Go.Proofs.Ytelcedajmnblbaa.spanPairs
namespace Go.Proofs.Ytelcedajmnblbaa
theorem spanPairs_holds : Rows.SpanPairsSaid := spanPairs.proved
end Go.Proofs.Ytelcedajmnblbaa
