/- The law SpanSplits returns true for every input. Conditions: none. -/
import Derived.Test.YtelcedajmnblbaaRows
import Derived.Test.YtelcedajmnblbaaSpan6
import Derived.WalkKit
import Derived.ProofKit
import Derived.OpenShut
import Derived.ChangeOld
import Derived.Below
import Derived.SizedLaws
set_option linter.unusedVariables false
set_option linter.unusedSimpArgs false
namespace Go.Proofs.Ytelcedajmnblbaa.spanSplits
open Go.AM Sn
theorem own : ownKnob Try.prog.godebug = none := by kernel_rfl
set_option maxRecDepth 100000 in
theorem up (os : Os) (started : os.Started) (H : Type) (enc : TypeId × Value → H) :
    ReturnsInHanded {} Try.checked os 7 .any (Rows.spanSplitsSpec.pre6 enc Try.prog Try.f7 Rows.spanSplitsRow.domain false) (Rows.spanSplitsSpec.post enc Try.prog Try.f7 false true false false) :=
  Go.AM.lifted (C := Try.checked) (n := 6) (ss := [.agg spanK, .k i64]) (caps := [0, 0]) own started (by kernel_rfl) Try.func7
    (ChangeSpec.witness6 (enc := enc) (C := Try.checked) false ⟨#[], #[.agg #[.int .i64 0, .int .i64 0], .int .i64 0], []⟩ 8 (by kernel_rfl) (by kernel_rfl) (by kernel_rfl) (by kernel_rfl))
    rfl rfl (by kernel_rfl) (by kernel_rfl) (by kernel_rfl) (by kernel_rfl)
    (fun ds h => match ds, h with
      | [d1, d2], _ => rfl)
    (k7 7 c7 rfl)
theorem over : Rows.spanSplitsRow.holds Try.pinned (OpenSpec.ofChange Rows.spanSplitsSpec) :=
  OpenClaim.holds_of_wide 7 Try.f7 rfl rfl rfl rfl rfl rfl rfl ⟨rfl, rfl, rfl, rfl, rfl⟩ rfl rfl rfl rfl rfl (by kernel_rfl) Try.func7 (by kernel_rfl)
    (of_decide_eq_true (by kernel_rfl)) (by unfold Func.isWrapper; first | (rw [if_pos (by decide +kernel)]; kernel_rfl) | (rw [if_neg (by decide +kernel)]; exact ⟨rfl, rfl⟩))
    (fun os started H enc _ => up os started H enc)
theorem proved : Rows.SpanSplitsSaid := over
#print axioms proved
end Go.Proofs.Ytelcedajmnblbaa.spanSplits
namespace Go.Proofs.Ytelcedajmnblbaa
theorem spanSplits_holds : Rows.SpanSplitsSaid := spanSplits.proved
end Go.Proofs.Ytelcedajmnblbaa
