/- The law ZonePlays returns true for every input. Conditions: none. -/
import Derived.Test.YtpbdnbnkojlbdaaRows
import Derived.Test.YtpbdnbnkojlbdaaZonetPlays
import Derived.WalkKit
import Derived.ProofKit
import Derived.OpenShut
import Derived.ChangeOld
import Derived.Below
import Derived.SizedLaws
set_option linter.unusedVariables false
set_option linter.unusedSimpArgs false
namespace Go.Proofs.Ytpbdnbnkojlbdaa.zonePlays
open Go.AM Z
theorem own : ownKnob Try.prog.godebug = none := by kernel_rfl
set_option maxRecDepth 100000 in
theorem up (os : Os) (started : os.Started) (H : Type) (enc : TypeId × Value → H) :
    ReturnsInHanded {} Try.checked os 7 .any (Rows.zonePlaysSpec.pre6 enc Try.prog Try.f7 Rows.zonePlaysRow.domain false) (Rows.zonePlaysSpec.post enc Try.prog Try.f7 false true false false) :=
  Go.AM.lifted (C := Try.checked) (n := 6) (ss := [.k i64, .k i64, .row [i64, i64, i64]]) (caps := [0, 0, 140737488355328]) own started (by kernel_rfl) Try.func7
    (ChangeSpec.witness6 (enc := enc) (C := Try.checked) false ⟨#[], #[.int .i64 0, .int .i64 0, .slice none 0 0], []⟩ 8 (by kernel_rfl) (by kernel_rfl) (by kernel_rfl) (by kernel_rfl))
    rfl rfl (by kernel_rfl) (by kernel_rfl) (by kernel_rfl) (by kernel_rfl)
    (fun ds h => match ds, h with
      | [d1, d2, d3], _ => rfl)
    (k7 7 c7 rfl)
theorem over : Rows.zonePlaysRow.holds Try.pinned (OpenSpec.ofChange Rows.zonePlaysSpec) :=
  OpenClaim.holds_of_wide 7 Try.f7 rfl rfl rfl rfl rfl rfl rfl ⟨rfl, rfl, rfl, rfl, rfl⟩ rfl rfl rfl rfl rfl (by kernel_rfl) Try.func7 (by kernel_rfl)
    (of_decide_eq_true (by kernel_rfl)) (by unfold Func.isWrapper; first | (rw [if_pos (by decide +kernel)]; kernel_rfl) | (rw [if_neg (by decide +kernel)]; exact ⟨rfl, rfl⟩))
    (fun os started H enc _ => up os started H enc)
theorem proved : Rows.ZonePlaysSaid := over
#print axioms proved
end Go.Proofs.Ytpbdnbnkojlbdaa.zonePlays
namespace Go.Proofs.Ytpbdnbnkojlbdaa
theorem zonePlays_holds : Rows.ZonePlaysSaid := zonePlays.proved
end Go.Proofs.Ytpbdnbnkojlbdaa
