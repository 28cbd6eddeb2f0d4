/- The law ZoneFills returns true for every input. Conditions: none. -/
import Derived.Test.YtpbdnbnkojlbdaaRows
import Derived.Test.YtpbdnbnkojlbdaaZonetFills
import Derived.WalkKit
import Derived.ProofKit
import Derived.OpenShut
import Derived.ChangeOld
import Derived.Below
import Derived.SizedLaws
set_option linter.unusedVariables false
set_option linter.unusedSimpArgs false
namespace Go.Proofs.Ytpbdnbnkojlbdaa.zoneFills
open Go.AM Z
theorem own : ownKnob Try.prog.godebug = none := by kernel_rfl
set_option maxRecDepth 100000 in
theorem up (os : Os) (started : os.Started) (H : Type) (enc : TypeId × Value → H) :
    ReturnsInHanded {} Try.checked os 5 .any (Rows.zoneFillsSpec.pre6 enc Try.prog Try.f5 Rows.zoneFillsRow.domain false) (Rows.zoneFillsSpec.post enc Try.prog Try.f5 false true false false) :=
  Go.AM.lifted (C := Try.checked) (n := 6) (ss := [.k i64, .k .bool]) (caps := [0, 0]) own started (by kernel_rfl) Try.func5
    (ChangeSpec.witness6 (enc := enc) (C := Try.checked) false ⟨#[], #[.int .i64 0, .bool false], []⟩ 8 (by kernel_rfl) (by kernel_rfl) (by kernel_rfl) (by kernel_rfl))
    rfl rfl (by kernel_rfl) (by kernel_rfl) (by kernel_rfl) (by kernel_rfl)
    (fun ds h => match ds, h with
      | [d1, d2], _ => rfl)
    (k5 5 c5 rfl)
theorem over : Rows.zoneFillsRow.holds Try.pinned (OpenSpec.ofChange Rows.zoneFillsSpec) :=
  OpenClaim.holds_of_wide 5 Try.f5 rfl rfl rfl rfl rfl rfl rfl ⟨rfl, rfl, rfl, rfl, rfl⟩ rfl rfl rfl rfl rfl (by kernel_rfl) Try.func5 (by kernel_rfl)
    (of_decide_eq_true (by kernel_rfl)) (by unfold Func.isWrapper; first | (rw [if_pos (by decide +kernel)]; kernel_rfl) | (rw [if_neg (by decide +kernel)]; exact ⟨rfl, rfl⟩))
    (fun os started H enc _ => up os started H enc)
theorem proved : Rows.ZoneFillsSaid := over
#print axioms proved
end Go.Proofs.Ytpbdnbnkojlbdaa.zoneFills
namespace Go.Proofs.Ytpbdnbnkojlbdaa
theorem zoneFills_holds : Rows.ZoneFillsSaid := zoneFills.proved
end Go.Proofs.Ytpbdnbnkojlbdaa
