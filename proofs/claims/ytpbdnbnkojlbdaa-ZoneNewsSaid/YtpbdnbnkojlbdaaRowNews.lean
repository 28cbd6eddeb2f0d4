/- The law ZoneNews returns true for every input. Conditions: none. -/
import Derived.Test.YtpbdnbnkojlbdaaRows
import Derived.Test.YtpbdnbnkojlbdaaZonetNews
import Derived.WalkKit
import Derived.ProofKit
import Derived.OpenShut
import Derived.ChangeOld
import Derived.Below
import Derived.SizedLaws
set_option linter.unusedVariables false
set_option linter.unusedSimpArgs false
namespace Go.Proofs.Ytpbdnbnkojlbdaa.zoneNews
open Go.AM Z
theorem own : ownKnob Try.prog.godebug = none := by kernel_rfl
set_option maxRecDepth 100000 in
theorem up (os : Os) (started : os.Started) (H : Type) (enc : TypeId × Value → H) :
    ReturnsInHanded {} Try.checked os 4 .any (Rows.zoneNewsSpec.pre6 enc Try.prog Try.f4 Rows.zoneNewsRow.domain false) (Rows.zoneNewsSpec.post enc Try.prog Try.f4 false true false false) :=
  Go.AM.lifted (C := Try.checked) (n := 6) (ss := [.k i64, .k i64, .k i64, .k i64]) (caps := [0, 0, 0, 0]) own started (by kernel_rfl) Try.func4
    (ChangeSpec.witness6 (enc := enc) (C := Try.checked) false ⟨#[], #[.int .i64 0, .int .i64 0, .int .i64 0, .int .i64 0], []⟩ 8 (by kernel_rfl) (by kernel_rfl) (by kernel_rfl) (by kernel_rfl))
    rfl rfl (by kernel_rfl) (by kernel_rfl) (by kernel_rfl) (by kernel_rfl)
    (fun ds h => match ds, h with
      | [d1, d2, d3, d4], _ => rfl)
    (k4 4 c4 rfl)
theorem over : Rows.zoneNewsRow.holds Try.pinned (OpenSpec.ofChange Rows.zoneNewsSpec) :=
  OpenClaim.holds_of_wide 4 Try.f4 rfl rfl rfl rfl rfl rfl rfl ⟨rfl, rfl, rfl, rfl, rfl⟩ rfl rfl rfl rfl rfl (by kernel_rfl) Try.func4 (by kernel_rfl)
    (of_decide_eq_true (by kernel_rfl)) (by unfold Func.isWrapper; first | (rw [if_pos (by decide +kernel)]; kernel_rfl) | (rw [if_neg (by decide +kernel)]; exact ⟨rfl, rfl⟩))
    (fun os started H enc _ => up os started H enc)
theorem proved : Rows.ZoneNewsSaid := over
#print axioms proved
end Go.Proofs.Ytpbdnbnkojlbdaa.zoneNews
namespace Go.Proofs.Ytpbdnbnkojlbdaa
theorem zoneNews_holds : Rows.ZoneNewsSaid := zoneNews.proved
end Go.Proofs.Ytpbdnbnkojlbdaa
