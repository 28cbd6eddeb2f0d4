/- The law ZoneCalls returns true for every input. Conditions: none. -/
import Derived.Test.YtpbdnbnkojlbdaaRows
import Derived.Test.YtpbdnbnkojlbdaaZonetCalls
import Derived.WalkKit
import Derived.ProofKit
import Derived.OpenShut
import Derived.ChangeOld
import Derived.Below
import Derived.SizedLaws
set_option linter.unusedVariables false
set_option linter.unusedSimpArgs false
namespace Go.Proofs.Ytpbdnbnkojlbdaa.zoneCalls
open Go.AM Z
theorem own : ownKnob Try.prog.godebug = none := by kernel_rfl
set_option maxRecDepth 100000 in
theorem up (os : Os) (started : os.Started) (H : Type) (enc : TypeId × Value → H) :
    ReturnsInHanded {} Try.checked os 6 .any (Rows.zoneCallsSpec.pre6 enc Try.prog Try.f6 Rows.zoneCallsRow.domain false) (Rows.zoneCallsSpec.post enc Try.prog Try.f6 false true false false) :=
  Go.AM.lifted (C := Try.checked) (n := 6) (ss := [.agg zoneK, .agg [i64, i64, i64]]) (caps := [0, 0]) own started (by kernel_rfl) Try.func6
    (ChangeSpec.witness6 (enc := enc) (C := Try.checked) false ⟨#[], #[.agg #[.int .i64 0, .int .i64 0, .int .i64 0, .int .i64 0, .int .i64 0, .int .i64 0], .agg #[.int .i64 0, .int .i64 0, .int .i64 0]], []⟩ 8 (by kernel_rfl) (by kernel_rfl) (by kernel_rfl) (by kernel_rfl))
    rfl rfl (by kernel_rfl) (by kernel_rfl) (by kernel_rfl) (by kernel_rfl)
    (fun ds h => match ds, h with
      | [d1, d2], _ => rfl)
    (k6 6 c6 rfl)
theorem over : Rows.zoneCallsRow.holds Try.pinned (OpenSpec.ofChange Rows.zoneCallsSpec) :=
  OpenClaim.holds_of_wide 6 Try.f6 rfl rfl rfl rfl rfl rfl rfl ⟨rfl, rfl, rfl, rfl, rfl⟩ rfl rfl rfl rfl rfl (by kernel_rfl) Try.func6 (by kernel_rfl)
    (of_decide_eq_true (by kernel_rfl)) (by unfold Func.isWrapper; first | (rw [if_pos (by decide +kernel)]; kernel_rfl) | (rw [if_neg (by decide +kernel)]; exact ⟨rfl, rfl⟩))
    (fun os started H enc _ => up os started H enc)
theorem proved : Rows.ZoneCallsSaid := over
#print axioms proved
end Go.Proofs.Ytpbdnbnkojlbdaa.zoneCalls
namespace Go.Proofs.Ytpbdnbnkojlbdaa
theorem zoneCalls_holds : Rows.ZoneCallsSaid := zoneCalls.proved
end Go.Proofs.Ytpbdnbnkojlbdaa
